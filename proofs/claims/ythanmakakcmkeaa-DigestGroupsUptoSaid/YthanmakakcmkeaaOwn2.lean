/- value.own: what is wrong with a part itself. -/
import Derived.Test.YthanmakakcmkeaaOwn
namespace Go.Proofs.Ythanmakakcmkeaa
open Go.RowKit

def Gives (r : Int) (w : World) (e : Ending) (w' : World) : Prop := e = .returned (.int .i64 r) ∧ Below w.heap.size w w'

theorem fields_any (ns : List ByteArray) (vs : List Value) (g cap n : Nat) (w : World) (hr : Row w 112 2 g cap n (fldCells ns vs)) (hl : ns.length = vs.length) (hn : vs.length = n) (hone : ∀ v ∈ vs, v = .nilIface ∨ ∃ T u, v = .iface T u) :
    Calls Try.prog 112 #[.slice (some ⟨g, 0, none⟩) n cap] w (Gives (fieldsE ns) w) := by
  subst hn
  by_cases h : 4096 < vs.length
  · refine (fields_long g cap vs.length w (by simp; omega)).mono ?_
    rintro e w' ⟨rfl, rfl⟩
    exact ⟨by simp [fieldsE, hl, h], Below.refl _ _⟩
  · exact fields_loop ns vs g cap w hr hl (by simp; omega) hone _ (by simp [fieldsE, hl, h])

theorem VsAt.forms {w : World} : ∀ (xs : List V) {vs : List Value} {S : List Nat}, VsAt w xs vs S → ∀ v ∈ vs, v = .nilIface ∨ ∃ T u, v = .iface T u
  | [], vs, S, h, v, hv => by obtain ⟨rfl, _⟩ := (by simpa only [VsAt] using h); cases hv
  | x :: xs, vs, S, h, v, hv => by
    obtain ⟨u, vr, S1, S2, rfl, _, h1, h2⟩ := (by simpa only [VsAt] using h)
    rcases List.mem_cons.1 hv with rfl | hv
    · exact h1.form
    · exact VsAt.forms xs h2 v hv

/-- what is wrong with a part itself, where there are not too many and it is not too deep -/
def ownS : V → Int
  | .text s => if s.size > 65536 then 2 else 0
  | .bytes l => if l.length > 65536 then 2 else 0
  | .list l => if l.length > 4096 then 2 else 0
  | .dict ns _ => fieldsE ns
  | .recd c r ns _ => if nameOk c then if r < 1 ∨ 1000 < r then 1 else fieldsE ns else 8
  | .nothing => 7
  | .alien => 6
  | _ => 0
def ownX : V → Int
  | .nothing => 7
  | .alien => 6
  | _ => 2
def ownE (x : V) (n deep : Int) : Int := if 16384 ≤ n ∨ 64 < deep then ownX x else ownS x

theorem ownX_eq (x : V) : ownX x = if kindOf x = 11 then 7 else if kindOf x = 0 then 6 else 2 := by cases x <;> rfl

theorem own_over (x : V) (v : Value) (S : List Nat) (n deep : Int) (w : World) (h : VAt w x v S) (hb : decide (16384 ≤ n) = true ∨ decide (16384 ≤ n) = false ∧ decide (64 < deep) = true) :
    Calls Try.prog 90 #[v, .int .i64 n, .int .i64 deep] w (Gives (ownX x) w) := by
  have hk : Calls Try.prog 93 #[v] w (fun e w' => e = .returned (.int .i64 (kindOf x)) ∧ w = w') := kind_any x v S w h
  rw [ownX_eq]
  generalize hkx : kindOf x = k at hk ⊢
  clear hkx
  by_cases h1 : k = 11
  · subst h1
    rcases hb with b1 | ⟨b1, b2⟩
    all_goals
      go_enter Try.func90, Try.ntmps90
      go_wp2_with (go_at_call 93; refine hk.mono ?_; rintro e w1 ⟨rfl, rfl⟩)
      go_ret
      exact ⟨rfl, Below.refl _ _⟩
  · have c1 : (k == 11) = false := by simpa using h1
    by_cases h2 : k = 0
    · subst h2
      rcases hb with b1 | ⟨b1, b2⟩
      all_goals
        go_enter Try.func90, Try.ntmps90
        go_wp2_with (go_at_call 93; refine hk.mono ?_; rintro e w1 ⟨rfl, rfl⟩)
        go_ret
        exact ⟨rfl, Below.refl _ _⟩
    · have c2 : (k == 0) = false := by simpa using h2
      have hr : (if k = 11 then (7 : Int) else if k = 0 then 6 else 2) = 2 := by rw [if_neg h1, if_neg h2]
      rw [hr]
      rcases hb with b1 | ⟨b1, b2⟩
      all_goals
        go_enter Try.func90, Try.ntmps90
        go_wp2_with (go_at_call 93; refine hk.mono ?_; rintro e w1 ⟨rfl, rfl⟩)
        go_ret
        exact ⟨rfl, Below.refl _ _⟩

set_option maxRecDepth 20000 in
set_option maxHeartbeats 2000000 in
theorem own_in (x : V) (v : Value) (S : List Nat) (n deep : Int) (w : World) (h : VAt w x v S) (b1 : decide (16384 ≤ n) = false) (b2 : decide (64 < deep) = false) :
    Calls Try.prog 90 #[v, .int .i64 n, .int .i64 deep] w (Gives (ownS x) w) := by
  have hk : Calls Try.prog 93 #[v] w (fun e w' => e = .returned (.int .i64 (kindOf x)) ∧ w = w') := kind_any x v S w h
  cases x with
  | nil =>
    obtain ⟨rfl, _⟩ := (by simpa only [VAt] using h)
    obtain ⟨a1, a2, a3, a4, a5, a6, a7, a8, a9⟩ := tas_nil
    go_enter Try.func90, Try.ntmps90
    go_wp2_with (go_at_call 93; refine hk.mono ?_; rintro e w1 ⟨rfl, rfl⟩)
    go_ret
    exact ⟨rfl, Below.refl _ _⟩
  | bool b =>
    obtain ⟨rfl, _⟩ := (by simpa only [VAt] using h)
    obtain ⟨a1, a2, a3, a4, a5, a6, a7, a8, a9⟩ := tas_bool
    go_enter Try.func90, Try.ntmps90
    go_wp2_with (go_at_call 93; refine hk.mono ?_; rintro e w1 ⟨rfl, rfl⟩)
    go_ret
    exact ⟨rfl, Below.refl _ _⟩
  | int b =>
    obtain ⟨rfl, _⟩ := (by simpa only [VAt] using h)
    obtain ⟨a1, a2, a3, a4, a5, a6, a7, a8, a9⟩ := tas_int
    go_enter Try.func90, Try.ntmps90
    go_wp2_with (go_at_call 93; refine hk.mono ?_; rintro e w1 ⟨rfl, rfl⟩)
    go_ret
    exact ⟨rfl, Below.refl _ _⟩
  | float b =>
    obtain ⟨rfl, _⟩ := (by simpa only [VAt] using h)
    obtain ⟨a1, a2, a3, a4, a5, a6, a7, a8, a9⟩ := tas_float
    go_enter Try.func90, Try.ntmps90
    go_wp2_with (go_at_call 93; refine hk.mono ?_; rintro e w1 ⟨rfl, rfl⟩)
    go_ret
    exact ⟨rfl, Below.refl _ _⟩
  | ref b =>
    obtain ⟨rfl, _⟩ := (by simpa only [VAt] using h)
    obtain ⟨a1, a2, a3, a4, a5, a6, a7, a8, a9⟩ := tas_ref
    go_enter Try.func90, Try.ntmps90
    go_wp2_with (go_at_call 93; refine hk.mono ?_; rintro e w1 ⟨rfl, rfl⟩)
    go_ret
    exact ⟨rfl, Below.refl _ _⟩
  | text b =>
    obtain ⟨rfl, _⟩ := (by simpa only [VAt] using h)
    obtain ⟨a1, a2, a3, a4, a5, a6, a7, a8, a9⟩ := tas_text
    clear h hk
    by_cases hl : b.size > 65536
    · have d1 : decide ((65536 : Int) < (b.size : Int)) = true := by simp; omega
      have hr : ownS (.text b) = 2 := by simp only [ownS]; rw [if_pos hl]
      rw [hr]
      go_enter Try.func90, Try.ntmps90
      go_wp2_with fail
      go_ret
      exact ⟨rfl, Below.refl _ _⟩
    · have d1 : decide ((65536 : Int) < (b.size : Int)) = false := by simp; omega
      have hr : ownS (.text b) = 0 := by simp only [ownS]; rw [if_neg hl]
      rw [hr]
      go_enter Try.func90, Try.ntmps90
      go_wp2_with fail
      go_ret
      exact ⟨rfl, Below.refl _ _⟩
  | bytes b =>
    obtain ⟨g, cap, rfl, _⟩ := (by simpa only [VAt] using h)
    obtain ⟨a1, a2, a3, a4, a5, a6, a7, a8, a9⟩ := tas_bytes
    clear h hk
    by_cases hl : b.length > 65536
    · have d1 : decide ((65536 : Int) < (b.length : Int)) = true := by simp; omega
      have hr : ownS (.bytes b) = 2 := by simp only [ownS]; rw [if_pos hl]
      rw [hr]
      go_enter Try.func90, Try.ntmps90
      go_wp2_with fail
      go_ret
      exact ⟨rfl, Below.refl _ _⟩
    · have d1 : decide ((65536 : Int) < (b.length : Int)) = false := by simp; omega
      have hr : ownS (.bytes b) = 0 := by simp only [ownS]; rw [if_neg hl]
      rw [hr]
      go_enter Try.func90, Try.ntmps90
      go_wp2_with fail
      go_ret
      exact ⟨rfl, Below.refl _ _⟩
  | list b =>
    obtain ⟨g, cap, vs, Ss, rfl, _⟩ := (by simpa only [VAt] using h)
    obtain ⟨a1, a2, a3, a4, a5, a6, a7, a8, a9⟩ := tas_list
    clear h hk
    by_cases hl : b.length > 4096
    · have d1 : decide ((4096 : Int) < (b.length : Int)) = true := by simp; omega
      have hr : ownS (.list b) = 2 := by simp only [ownS]; rw [if_pos hl]
      rw [hr]
      go_enter Try.func90, Try.ntmps90
      go_wp2_with fail
      go_ret
      exact ⟨rfl, Below.refl _ _⟩
    · have d1 : decide ((4096 : Int) < (b.length : Int)) = false := by simp; omega
      have hr : ownS (.list b) = 0 := by simp only [ownS]; rw [if_neg hl]
      rw [hr]
      go_enter Try.func90, Try.ntmps90
      go_wp2_with fail
      go_ret
      exact ⟨rfl, Below.refl _ _⟩
  | dict ns xs =>
    obtain ⟨g, cap, vs, Ss, rfl, hr, hv, _, hl, _⟩ := (by simpa only [VAt] using h)
    obtain ⟨a1, a2, a3, a4, a5, a6, a7, a8, a9⟩ := tas_dict
    have hf : Calls Try.prog 112 #[.slice (some ⟨g, 0, none⟩) xs.length cap] w (Gives (fieldsE ns) w) :=
      fields_any ns vs g cap xs.length w hr (by rw [VsAt.length xs hv, hl]) (VsAt.length xs hv) (VsAt.forms xs hv)
    show Calls _ _ _ _ (Gives (fieldsE ns) w)
    generalize fieldsE ns = r at hf ⊢
    clear h hk hr hv hl
    go_enter Try.func90, Try.ntmps90
    go_wp2_with (go_at_call 112; refine hf.mono ?_; rintro e w1 ⟨rfl, hb⟩)
    go_ret
    exact ⟨rfl, hb⟩
  | recd c r ns xs =>
    obtain ⟨p, g, cap, vs, Ss, rfl, hp, hr, hv, _, hl, _⟩ := (by simpa only [VAt] using h)
    obtain ⟨a1, a2, a3, a4, a5, a6, a7, a8, a9⟩ := tas_rec
    have c0 : w.cell? ⟨p, 0, none⟩ = some (.string c) := hp.cell 0
    have c1 : w.cell? ⟨p, 1, none⟩ = some (.int .i64 r) := hp.cell 1
    have c2 : w.cell? ⟨p, 2, none⟩ = some (.slice (some ⟨g, 0, none⟩) xs.length cap) := hp.cell 2
    have hf : ∀ w', Below w.heap.size w w' → Calls Try.prog 112 #[.slice (some ⟨g, 0, none⟩) xs.length cap] w' (Gives (fieldsE ns) w') := fun w' hb =>
      fields_any ns vs g cap xs.length w' (hr.below hb) (by rw [VsAt.length xs hv, hl]) (VsAt.length xs hv) (VsAt.forms xs hv)
    by_cases hc : nameOk c = true
    · have hn : ∀ w', Calls Try.prog 113 #[.string c] w' (Says true w') := fun w' => name_is c true hc w'
      by_cases hr1 : r < 1
      · have d1 : decide (r < 1) = true := by simpa using hr1
        have hres : ownS (.recd c r ns xs) = 1 := by simp only [ownS]; rw [if_pos hc, if_pos (Or.inl hr1)]
        rw [hres]
        clear h hk hr hv hl hp hf hc hr1 hres
        go_enter Try.func90, Try.ntmps90
        go_wp2_with (first | (go_at_call 113; refine (hn _).mono ?_; rintro e w1 ⟨rfl, hb⟩; have c0' := cell_below hb c0; have c1' := cell_below hb c1; have c2' := cell_below hb c2))
        go_ret
        exact ⟨rfl, hb⟩
      · have d1 : decide (r < 1) = false := by simpa using hr1
        by_cases hr2 : 1000 < r
        · have d2 : decide (1000 < r) = true := by simpa using hr2
          have hres : ownS (.recd c r ns xs) = 1 := by simp only [ownS]; rw [if_pos hc, if_pos (Or.inr hr2)]
          rw [hres]
          clear h hk hr hv hl hp hf hc hr1 hr2 hres
          go_enter Try.func90, Try.ntmps90
          go_wp2_with (first | (go_at_call 113; refine (hn _).mono ?_; rintro e w1 ⟨rfl, hb⟩; have c0' := cell_below hb c0; have c1' := cell_below hb c1; have c2' := cell_below hb c2))
          go_ret
          exact ⟨rfl, hb⟩
        · have d2 : decide (1000 < r) = false := by simpa using hr2
          have hres : ownS (.recd c r ns xs) = fieldsE ns := by simp only [ownS]; rw [if_pos hc, if_neg (by omega)]
          rw [hres]
          generalize fieldsE ns = q at hf ⊢
          clear h hk hr hv hl hp hc hr1 hr2 hres
          have HF := Lib.hid hf
          clear hf
          go_enter Try.func90, Try.ntmps90
          go_wp2_with (first | (go_at_call 113; refine (hn _).mono ?_; rintro e w1 ⟨rfl, hb⟩; have c0' := cell_below hb c0; have c1' := cell_below hb c1; have c2' := cell_below hb c2) | (go_at_call 112; refine (HF.out _ ‹_›).mono ?_; rintro e w2 ⟨rfl, hb2⟩))
          go_ret
          exact ⟨rfl, hb.trans (hb2.mono hb.size)⟩
    · have hn : ∀ w', Calls Try.prog 113 #[.string c] w' (Says false w') := fun w' => name_is c false (Bool.eq_false_iff.2 hc) w'
      have hres : ownS (.recd c r ns xs) = 8 := by simp only [ownS]; rw [if_neg hc]
      rw [hres]
      clear h hk hr hv hl hp hf hc hres
      go_enter Try.func90, Try.ntmps90
      go_wp2_with (go_at_call 113; refine (hn _).mono ?_; rintro e w1 ⟨rfl, hb⟩)
      go_ret
      exact ⟨rfl, hb⟩
  | nothing =>
    obtain ⟨rfl, _⟩ := (by simpa only [VAt] using h)
    obtain ⟨a1, a2, a3, a4, a5, a6, a7, a8, a9⟩ := tas_rec
    go_enter Try.func90, Try.ntmps90
    go_wp2_with fail
    go_ret
    exact ⟨rfl, Below.refl _ _⟩
  | alien =>
    obtain ⟨T, u, rfl, hT, _⟩ := (by simpa only [VAt] using h)
    obtain ⟨a1, a2, a3, a4, a5, a6, a7, a8, a9⟩ := tas_alien hT
    go_enter Try.func90, Try.ntmps90
    go_wp2_with (go_at_call 93; refine hk.mono ?_; rintro e w1 ⟨rfl, rfl⟩)
    go_ret
    exact ⟨rfl, Below.refl _ _⟩

theorem own_any (x : V) (v : Value) (S : List Nat) (n deep : Int) (w : World) (h : VAt w x v S) : Calls Try.prog 90 #[v, .int .i64 n, .int .i64 deep] w (Gives (ownE x n deep) w) := by
  unfold ownE
  split
  · rename_i hc
    refine own_over x v S n deep w h ?_
    by_cases h1 : 16384 ≤ n
    · exact Or.inl (by simpa using h1)
    · exact Or.inr ⟨by simpa using h1, by rcases hc with hc | hc; exact absurd hc h1; simpa using hc⟩
  · rename_i hc
    exact own_in x v S n deep w h (by simp; omega) (by simp; omega)
end Go.Proofs.Ythanmakakcmkeaa
