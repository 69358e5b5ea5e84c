/- value.kind, value.fields, value.own: what is wrong with a part itself. -/
import Derived.Test.YthanmakakcmkeaaName
import Derived.Test.YthanmakakcmkeaaReg
import Derived.Deep.DrawnRows
namespace Go.Proofs.Ythanmakakcmkeaa
open Go.RowKit
attribute [local go_sem ↓] Go.wp_at_zero Go.wp_at_succ

def kindOf : V → Int
  | .nil => 1 | .bool _ => 2 | .int _ => 3 | .float _ => 4 | .text _ => 5 | .bytes _ => 6 | .ref _ => 7 | .list _ => 8 | .dict _ _ => 9 | .recd _ _ _ _ => 10 | .nothing => 11 | .alien => 0

theorem kind_any (x : V) (v : Value) (S : List Nat) (w : World) (h : VAt w x v S) : Calls Try.prog 93 #[v] w (fun e w' => e = .returned (.int .i64 (kindOf x)) ∧ w = w') := by
  cases x with
  | nil =>
    obtain ⟨rfl, _⟩ := (by simpa only [VAt] using h)
    go_enter Try.func93, Try.ntmps93
    go_wp2
    go_ret
    exact ⟨rfl, rfl⟩
  | bool b =>
    obtain ⟨rfl, _⟩ := (by simpa only [VAt] using h)
    obtain ⟨a1, a2, a3, a4, a5, a6, a7, a8, a9⟩ := tas_bool
    go_enter Try.func93, Try.ntmps93
    go_wp2
    go_ret
    exact ⟨rfl, rfl⟩
  | int b =>
    obtain ⟨rfl, _⟩ := (by simpa only [VAt] using h)
    obtain ⟨a1, a2, a3, a4, a5, a6, a7, a8, a9⟩ := tas_int
    go_enter Try.func93, Try.ntmps93
    go_wp2
    go_ret
    exact ⟨rfl, rfl⟩
  | float b =>
    obtain ⟨rfl, _⟩ := (by simpa only [VAt] using h)
    obtain ⟨a1, a2, a3, a4, a5, a6, a7, a8, a9⟩ := tas_float
    go_enter Try.func93, Try.ntmps93
    go_wp2
    go_ret
    exact ⟨rfl, rfl⟩
  | text b =>
    obtain ⟨rfl, _⟩ := (by simpa only [VAt] using h)
    obtain ⟨a1, a2, a3, a4, a5, a6, a7, a8, a9⟩ := tas_text
    go_enter Try.func93, Try.ntmps93
    go_wp2
    go_ret
    exact ⟨rfl, rfl⟩
  | bytes b =>
    obtain ⟨g, cap, rfl, _⟩ := (by simpa only [VAt] using h)
    obtain ⟨a1, a2, a3, a4, a5, a6, a7, a8, a9⟩ := tas_bytes
    go_enter Try.func93, Try.ntmps93
    go_wp2
    go_ret
    exact ⟨rfl, rfl⟩
  | ref b =>
    obtain ⟨rfl, _⟩ := (by simpa only [VAt] using h)
    obtain ⟨a1, a2, a3, a4, a5, a6, a7, a8, a9⟩ := tas_ref
    go_enter Try.func93, Try.ntmps93
    go_wp2
    go_ret
    exact ⟨rfl, rfl⟩
  | list b =>
    obtain ⟨g, cap, vs, Ss, rfl, _⟩ := (by simpa only [VAt] using h)
    obtain ⟨a1, a2, a3, a4, a5, a6, a7, a8, a9⟩ := tas_list
    go_enter Try.func93, Try.ntmps93
    go_wp2
    go_ret
    exact ⟨rfl, rfl⟩
  | dict b c =>
    obtain ⟨g, cap, vs, Ss, rfl, _⟩ := (by simpa only [VAt] using h)
    obtain ⟨a1, a2, a3, a4, a5, a6, a7, a8, a9⟩ := tas_dict
    go_enter Try.func93, Try.ntmps93
    go_wp2
    go_ret
    exact ⟨rfl, rfl⟩
  | recd c r b d =>
    obtain ⟨p, g, cap, vs, Ss, rfl, _⟩ := (by simpa only [VAt] using h)
    obtain ⟨a1, a2, a3, a4, a5, a6, a7, a8, a9⟩ := tas_rec
    go_enter Try.func93, Try.ntmps93
    go_wp2
    go_ret
    exact ⟨rfl, rfl⟩
  | nothing =>
    obtain ⟨rfl, _⟩ := (by simpa only [VAt] using h)
    obtain ⟨a1, a2, a3, a4, a5, a6, a7, a8, a9⟩ := tas_rec
    go_enter Try.func93, Try.ntmps93
    go_wp2
    go_ret
    exact ⟨rfl, rfl⟩
  | alien =>
    obtain ⟨T, u, rfl, hT, _⟩ := (by simpa only [VAt] using h)
    obtain ⟨a1, a2, a3, a4, a5, a6, a7, a8, a9⟩ := tas_alien hT
    go_enter Try.func93, Try.ntmps93
    go_wp2
    go_ret
    exact ⟨rfl, rfl⟩

/-- 'a <= b' of texts -/
def strLe (a b : ByteArray) : Bool := Op.bytesLess a.toList b.toList || a.toList == b.toList
/-- a name that stands right at its place -/
def goodAt (ns : List ByteArray) (i : Nat) : Bool := nameOk (ns.getD i ByteArray.empty) && (decide (i = 0) || !strLe (ns.getD i ByteArray.empty) (ns.getD (i - 1) ByteArray.empty))
def namesOk (ns : List ByteArray) : Bool := (List.range ns.length).all (goodAt ns)
def fieldsE (ns : List ByteArray) : Int := if ns.length > 4096 then 2 else if namesOk ns then 0 else 8

theorem fldCells_len : ∀ (ns : List ByteArray) (vs : List Value), ns.length = vs.length → (fldCells ns vs).length = vs.length * 2
  | [], [], _ => rfl
  | [], v :: vs, h => by simp at h
  | n :: ns, [], h => by simp at h
  | n :: ns, v :: vs, h => by simp [fldCells, fldCells_len ns vs (by simpa using h)]; omega

theorem fldCells_name : ∀ (ns : List ByteArray) (vs : List Value), ns.length = vs.length → ∀ (k : Nat), k < vs.length → (fldCells ns vs)[k * 2]? = some (.string (ns.getD k ByteArray.empty)) ∧ (fldCells ns vs)[k * 2 + 1]? = vs[k]?
  | [], [], _, k, hk => by simp at hk
  | [], v :: vs, h, k, hk => by simp at h
  | n :: ns, [], h, k, hk => by simp at h
  | n :: ns, v :: vs, h, k, hk => by
    cases k with
    | zero => simp [fldCells]
    | succ k =>
      have ih := fldCells_name ns vs (by simpa using h) k (by simpa using hk)
      have e1 : (k + 1) * 2 = k * 2 + 2 := by omega
      have e2 : (k + 1) * 2 + 1 = (k * 2 + 1) + 2 := by omega
      rw [e2, e1]
      simpa [fldCells] using ih

theorem run_leq (a b : ByteArray) (w : World) : (binOp .leq 9 (.string a) (.string b)).run Try.prog w = .ok (.bool (strLe a b)) w := by
  simp [go_sem, strLe]
theorem name_is (s : ByteArray) (b : Bool) (h : nameOk s = b) (w : World) : Calls Try.prog 113 #[.string s] w (Says b w) := h ▸ name_any s w

theorem fields_long (g cap n : Nat) (w : World) (h : decide (4096 < (n : Int)) = true) : Calls Try.prog 112 #[.slice (some ⟨g, 0, none⟩) n cap] w (fun e w' => e = .returned (.int .i64 2) ∧ w = w') := by
  go_enter Try.func112, Try.ntmps112
  go_wp2
  go_ret
  exact ⟨rfl, rfl⟩

set_option maxRecDepth 20000 in
set_option maxHeartbeats 20000000 in
theorem fields_loop (ns : List ByteArray) (vs : List Value) (g cap : Nat) (w : World) (hr : Row w 112 2 g cap vs.length (fldCells ns vs)) (hl : ns.length = vs.length) (h1 : decide (4096 < (vs.length : Int)) = false) (hone : ∀ v ∈ vs, v = .nilIface ∨ ∃ T u, v = .iface T u) (r : Int) (hres : (if namesOk ns then 0 else 8) = r) :
    Calls Try.prog 112 #[.slice (some ⟨g, 0, none⟩) vs.length cap] w (fun e w' => e = .returned (.int .i64 r) ∧ Below w.heap.size w w') := by
  have HRES := Lib.hid hres
  have HR := Lib.hid hr
  have hglt := hr.lt
  have hlen : vs.length ≤ 4096 := by have := of_decide_eq_false h1; omega
  clear hres hr
  go_enter Try.func112, Try.ntmps112
  go_wp2
  clear h1
  go_loopw [3, 4, 10] (fun v3 v4 v10 wr => ∃ k : Nat, k ≤ vs.length ∧ v10 = .int .i64 k ∧ (∀ i, i < k → goodAt ns i = true) ∧ Below w.heap.size w wr) (fun _ _ v _ => vs.length - (intOf v).toNat)
  case atStart => exact ⟨0, by omega, rfl, by simp, Below.refl _ _⟩
  case round =>
    obtain ⟨k, hk, rfl, hall, hbl⟩ := hrel
    have HA := Lib.hid hall
    clear hall
    by_cases hlt : k < vs.length
    · have hc0 : wr.cell? ⟨g, k * 2, none⟩ = some (.string (ns.getD k ByteArray.empty)) := by
        rw [hbl.cell (p := ⟨g, k * 2, none⟩) hglt, HR.out.cell _ (by omega), (fldCells_name ns vs hl k hlt).1]
      have hc1 : wr.cell? ⟨g, k * 2 + 1, none⟩ = some vs[k] := by
        rw [hbl.cell (p := ⟨g, k * 2 + 1, none⟩) hglt, HR.out.cell _ (by omega), (fldCells_name ns vs hl k hlt).2]; simp [hlt]
      have hk0 : (0 : Int) ≤ (k : Int) := Int.natCast_nonneg _
      have hk1 : (k : Int) < (vs.length : Int) := by omega
      obtain ⟨u, hu⟩ : ∃ u, u = vs[k] := ⟨_, rfl⟩
      obtain ⟨n, hn⟩ : ∃ n, n = ns.getD k ByteArray.empty := ⟨_, rfl⟩
      rw [← hu] at hc1
      rw [← hn] at hc0
      have hform : u = .nilIface ∨ ∃ T x, u = .iface T x := by rw [hu]; exact hone _ (List.getElem_mem hlt)
      have HN := Lib.hid hn
      clear hu hn
      obtain ⟨p, hp⟩ : ∃ p, p = ns.getD (k - 1) ByteArray.empty := ⟨_, rfl⟩
      have hp0 : wr.cell? ⟨g, (k - 1) * 2, none⟩ = some (.string p) := by
        rw [hbl.cell (p := ⟨g, (k - 1) * 2, none⟩) hglt, HR.out.cell _ (by omega), (fldCells_name ns vs hl (k - 1) (by omega)).1, hp]
      have good : nameOk n = true → (k = 0 ∨ strLe n p = false) → ∀ i, i < k + 1 → goodAt ns i = true := fun h1 h2 i hi => by
        by_cases e : i = k
        · subst e
          unfold goodAt
          rw [← HN.out, ← hp, h1]
          rcases h2 with h2 | h2 <;> simp [h2]
        · exact HA.out i (by omega)
      have bad0 : nameOk n = false → namesOk ns = false := fun h1 => by
        rw [namesOk, List.all_eq_false]
        exact ⟨k, by simp; omega, by unfold goodAt; rw [← HN.out, h1]; simp⟩
      have bad : nameOk n = true → (k = 0 ∧ False ∨ ¬ k = 0 ∧ strLe n p = true) → namesOk ns = false := fun h1 h2 => by
        rw [namesOk, List.all_eq_false]
        refine ⟨k, by simp; omega, ?_⟩
        rcases h2 with h2 | h2
        · exact h2.2.elim
        · unfold goodAt; rw [← HN.out, ← hp, h1, h2.2]; simp [h2.1]
      have GOOD := Lib.hid good
      have BAD0 := Lib.hid bad0
      have BAD := Lib.hid bad
      clear good bad bad0 hp
      rcases hform with rfl | ⟨T, x, rfl⟩
      · skip
        have BW0 : Below w.heap.size w (wr.alloc (.cells #[.string n, .nilIface] 112)) := hbl.alloc (by have := hbl.size; omega) _
        have BW := Lib.hid BW0
        clear BW0
        by_cases hk0 : k = 0
        · subst hk0
          have e0 : ((0 : Nat) : Int) = 0 := rfl
          have ez : 0 * 2 = 0 := rfl
          simp only [e0, ez] at hc0 hc1 hk1 ⊢
          clear e0 ez hp0
          go_wp2_with fail
          by_cases hnm : nameOk n = true
          · skip
            refine wp_region_held_drew (S := (fun w' => w'.cell? ⟨wr.heap.size, 0, none⟩ = some (.string n))) (by kernel_rfl) (by go_keep) (fun hHeld => ?_)
            refine held_take (i := 0) (v := ?_) rfl (by kernel_rfl) (by kernel_rfl) (by kernel_rfl) (fun _ _ _ h => h) (by kernel_rfl) ?_ hHeld ?_; rotate_left; focus (((intro w hSw; (try dsimp only at hSw); go_simp) <;> with_reducible rfl); done)
            (try simp only [Act.put, List.setIfInBounds_toArray, List.set_cons_zero, List.set_cons_succ])
            refine held_take (i := 1) (v := ?_) rfl (by kernel_rfl) (by kernel_rfl) (by kernel_rfl) (fun _ _ _ h => h) (by kernel_rfl) ?_ hHeld ?_; rotate_left; focus (((intro w hSw; (try dsimp only at hSw); go_simp) <;> with_reducible rfl); done)
            (try simp only [Act.put, List.setIfInBounds_toArray, List.set_cons_zero, List.set_cons_succ])
            refine held_call (i := 2) rfl (by kernel_rfl) (by kernel_rfl) (fun K hK => ?_)
            go_simp
            (refine (name_is n _ (hnm) _).mono ?_; rintro e w1 ⟨rfl, hb1⟩; try simp only [] )
            refine hK.out _ _ ?_ (fun hHeld2 => ?_)
            · exact cell_below hb1 hHeld
            clear hK K hHeld
            have hHeld := hHeld2
            clear hHeld2
            (try simp only [Act.put, List.setIfInBounds_toArray, List.set_cons_zero, List.set_cons_succ])
            refine held_take (i := 3) (v := ?_) rfl (by kernel_rfl) (by kernel_rfl) (by kernel_rfl) (fun _ _ _ h => h) (by kernel_rfl) ?_ hHeld ?_; rotate_left; focus (((intro w hSw; (try dsimp only at hSw); go_simp) <;> with_reducible rfl); done)
            (try simp only [Act.put, List.setIfInBounds_toArray, List.set_cons_zero, List.set_cons_succ])
            refine held_take (i := 4) (v := ?_) rfl (by kernel_rfl) (by kernel_rfl) (by kernel_rfl) (fun _ _ _ h => h) (by kernel_rfl) ?_ hHeld ?_; rotate_left; focus (((intro w hSw; (try dsimp only at hSw); go_simp) <;> with_reducible rfl); done)
            (try simp only [Act.put, List.setIfInBounds_toArray, List.set_cons_zero, List.set_cons_succ])
            refine held_take (i := 5) (v := ?_) rfl (by kernel_rfl) (by kernel_rfl) (by kernel_rfl) (fun _ _ _ h => h) (by kernel_rfl) ?_ hHeld ?_; rotate_left; focus (((intro w hSw; (try dsimp only at hSw); go_simp) <;> with_reducible rfl); done)
            (try simp only [Act.put, List.setIfInBounds_toArray, List.set_cons_zero, List.set_cons_succ])
            refine held_take (i := 6) (v := ?_) rfl (by kernel_rfl) (by kernel_rfl) (by kernel_rfl) (fun _ _ _ h => h) (by kernel_rfl) ?_ hHeld ?_; rotate_left; focus (((intro w hSw; (try dsimp only at hSw); go_simp) <;> with_reducible rfl); done)
            (try simp only [Act.put, List.setIfInBounds_toArray, List.set_cons_zero, List.set_cons_succ])
            refine held_take (i := 7) (v := ?_) rfl (by kernel_rfl) (by kernel_rfl) (by kernel_rfl) (fun _ _ _ h => h) (by kernel_rfl) ?_ hHeld ?_; rotate_left; focus (((intro w hSw; (try dsimp only at hSw); go_simp) <;> with_reducible rfl); done)
            (try simp only [Act.put, List.setIfInBounds_toArray, List.set_cons_zero, List.set_cons_succ])
            refine held_skip (i := 8) rfl (by kernel_rfl) (by kernel_rfl) (by kernel_rfl) (fun _ _ _ h => h) (by kernel_rfl) hHeld ?_
            (try simp only [Act.put, List.setIfInBounds_toArray, List.set_cons_zero, List.set_cons_succ])
            refine held_skip (i := 9) rfl (by kernel_rfl) (by kernel_rfl) (by kernel_rfl) (fun _ _ _ h => h) (by kernel_rfl) hHeld ?_
            (try simp only [Act.put, List.setIfInBounds_toArray, List.set_cons_zero, List.set_cons_succ])
            refine held_skip (i := 10) rfl (by kernel_rfl) (by kernel_rfl) (by kernel_rfl) (fun _ _ _ h => h) (by kernel_rfl) hHeld ?_
            (try simp only [Act.put, List.setIfInBounds_toArray, List.set_cons_zero, List.set_cons_succ])
            refine held_skip (i := 11) rfl (by kernel_rfl) (by kernel_rfl) (by kernel_rfl) (fun _ _ _ h => h) (by kernel_rfl) hHeld ?_
            (try simp only [Act.put, List.setIfInBounds_toArray, List.set_cons_zero, List.set_cons_succ])
            refine held_skip (i := 12) rfl (by kernel_rfl) (by kernel_rfl) (by kernel_rfl) (fun _ _ _ h => h) (by kernel_rfl) hHeld ?_
            (try simp only [Act.put, List.setIfInBounds_toArray, List.set_cons_zero, List.set_cons_succ])
            refine held_skip (i := 13) rfl (by kernel_rfl) (by kernel_rfl) (by kernel_rfl) (fun _ _ _ h => h) (by kernel_rfl) hHeld ?_
            (try simp only [Act.put, List.setIfInBounds_toArray, List.set_cons_zero, List.set_cons_succ])
            refine held_skip (i := 14) rfl (by kernel_rfl) (by kernel_rfl) (by kernel_rfl) (fun _ _ _ h => h) (by kernel_rfl) hHeld ?_
            (try simp only [Act.put, List.setIfInBounds_toArray, List.set_cons_zero, List.set_cons_succ])
            refine held_skip (i := 15) rfl (by kernel_rfl) (by kernel_rfl) (by kernel_rfl) (fun _ _ _ h => h) (by kernel_rfl) hHeld ?_
            (try simp only [Act.put, List.setIfInBounds_toArray, List.set_cons_zero, List.set_cons_succ])
            refine held_skip (i := 16) rfl (by kernel_rfl) (by kernel_rfl) (by kernel_rfl) (fun _ _ _ h => h) (by kernel_rfl) hHeld ?_
            (try simp only [Act.put, List.setIfInBounds_toArray, List.set_cons_zero, List.set_cons_succ])
            refine held_take (i := 17) (v := ?_) rfl (by kernel_rfl) (by kernel_rfl) (by kernel_rfl) (fun _ _ _ h => h) (by kernel_rfl) ?_ hHeld ?_; rotate_left; focus (((intro w hSw; (try dsimp only at hSw); go_simp) <;> with_reducible rfl); done)
            (try simp only [Act.put, List.setIfInBounds_toArray, List.set_cons_zero, List.set_cons_succ])
            refine held_take (i := 18) (v := ?_) rfl (by kernel_rfl) (by kernel_rfl) (by kernel_rfl) (fun _ _ _ h => h) (by kernel_rfl) ?_ hHeld ?_; rotate_left; focus (((intro w hSw; (try dsimp only at hSw); go_simp) <;> with_reducible rfl); done)
            (try simp only [Act.put, List.setIfInBounds_toArray, List.set_cons_zero, List.set_cons_succ])
            refine wpAnyH_done (by kernel_rfl) ?_ _
            go_wp2
            go_roundw
            case rel => exact ⟨0 + 1, by omega, by go_num, GOOD.out hnm (Or.inl (by trivial)), BW.out.trans ((below_undrew hb1).mono (by have := hbl.size; simp; omega))⟩
            case measure => simp [intOf]; omega
          · skip
            refine wp_region_held_drew (S := (fun w' => w'.cell? ⟨wr.heap.size, 0, none⟩ = some (.string n))) (by kernel_rfl) (by go_keep) (fun hHeld => ?_)
            refine held_take (i := 0) (v := ?_) rfl (by kernel_rfl) (by kernel_rfl) (by kernel_rfl) (fun _ _ _ h => h) (by kernel_rfl) ?_ hHeld ?_; rotate_left; focus (((intro w hSw; (try dsimp only at hSw); go_simp) <;> with_reducible rfl); done)
            (try simp only [Act.put, List.setIfInBounds_toArray, List.set_cons_zero, List.set_cons_succ])
            refine held_take (i := 1) (v := ?_) rfl (by kernel_rfl) (by kernel_rfl) (by kernel_rfl) (fun _ _ _ h => h) (by kernel_rfl) ?_ hHeld ?_; rotate_left; focus (((intro w hSw; (try dsimp only at hSw); go_simp) <;> with_reducible rfl); done)
            (try simp only [Act.put, List.setIfInBounds_toArray, List.set_cons_zero, List.set_cons_succ])
            refine held_call (i := 2) rfl (by kernel_rfl) (by kernel_rfl) (fun K hK => ?_)
            go_simp
            (refine (name_is n _ (Bool.eq_false_iff.2 hnm) _).mono ?_; rintro e w1 ⟨rfl, hb1⟩; try simp only [] )
            refine hK.out _ _ ?_ (fun hHeld2 => ?_)
            · exact cell_below hb1 hHeld
            clear hK K hHeld
            have hHeld := hHeld2
            clear hHeld2
            (try simp only [Act.put, List.setIfInBounds_toArray, List.set_cons_zero, List.set_cons_succ])
            refine held_take (i := 3) (v := ?_) rfl (by kernel_rfl) (by kernel_rfl) (by kernel_rfl) (fun _ _ _ h => h) (by kernel_rfl) ?_ hHeld ?_; rotate_left; focus (((intro w hSw; (try dsimp only at hSw); go_simp) <;> with_reducible rfl); done)
            (try simp only [Act.put, List.setIfInBounds_toArray, List.set_cons_zero, List.set_cons_succ])
            refine held_take (i := 4) (v := ?_) rfl (by kernel_rfl) (by kernel_rfl) (by kernel_rfl) (fun _ _ _ h => h) (by kernel_rfl) ?_ hHeld ?_; rotate_left; focus (((intro w hSw; (try dsimp only at hSw); go_simp) <;> with_reducible rfl); done)
            (try simp only [Act.put, List.setIfInBounds_toArray, List.set_cons_zero, List.set_cons_succ])
            refine held_skip (i := 5) rfl (by kernel_rfl) (by kernel_rfl) (by kernel_rfl) (fun _ _ _ h => h) (by kernel_rfl) hHeld ?_
            (try simp only [Act.put, List.setIfInBounds_toArray, List.set_cons_zero, List.set_cons_succ])
            refine held_skip (i := 6) rfl (by kernel_rfl) (by kernel_rfl) (by kernel_rfl) (fun _ _ _ h => h) (by kernel_rfl) hHeld ?_
            (try simp only [Act.put, List.setIfInBounds_toArray, List.set_cons_zero, List.set_cons_succ])
            refine held_skip (i := 7) rfl (by kernel_rfl) (by kernel_rfl) (by kernel_rfl) (fun _ _ _ h => h) (by kernel_rfl) hHeld ?_
            (try simp only [Act.put, List.setIfInBounds_toArray, List.set_cons_zero, List.set_cons_succ])
            refine held_skip (i := 8) rfl (by kernel_rfl) (by kernel_rfl) (by kernel_rfl) (fun _ _ _ h => h) (by kernel_rfl) hHeld ?_
            (try simp only [Act.put, List.setIfInBounds_toArray, List.set_cons_zero, List.set_cons_succ])
            refine held_skip (i := 9) rfl (by kernel_rfl) (by kernel_rfl) (by kernel_rfl) (fun _ _ _ h => h) (by kernel_rfl) hHeld ?_
            (try simp only [Act.put, List.setIfInBounds_toArray, List.set_cons_zero, List.set_cons_succ])
            refine held_skip (i := 10) rfl (by kernel_rfl) (by kernel_rfl) (by kernel_rfl) (fun _ _ _ h => h) (by kernel_rfl) hHeld ?_
            (try simp only [Act.put, List.setIfInBounds_toArray, List.set_cons_zero, List.set_cons_succ])
            refine held_skip (i := 11) rfl (by kernel_rfl) (by kernel_rfl) (by kernel_rfl) (fun _ _ _ h => h) (by kernel_rfl) hHeld ?_
            (try simp only [Act.put, List.setIfInBounds_toArray, List.set_cons_zero, List.set_cons_succ])
            refine held_skip (i := 12) rfl (by kernel_rfl) (by kernel_rfl) (by kernel_rfl) (fun _ _ _ h => h) (by kernel_rfl) hHeld ?_
            (try simp only [Act.put, List.setIfInBounds_toArray, List.set_cons_zero, List.set_cons_succ])
            refine held_skip (i := 13) rfl (by kernel_rfl) (by kernel_rfl) (by kernel_rfl) (fun _ _ _ h => h) (by kernel_rfl) hHeld ?_
            (try simp only [Act.put, List.setIfInBounds_toArray, List.set_cons_zero, List.set_cons_succ])
            refine held_skip (i := 14) rfl (by kernel_rfl) (by kernel_rfl) (by kernel_rfl) (fun _ _ _ h => h) (by kernel_rfl) hHeld ?_
            (try simp only [Act.put, List.setIfInBounds_toArray, List.set_cons_zero, List.set_cons_succ])
            refine held_skip (i := 15) rfl (by kernel_rfl) (by kernel_rfl) (by kernel_rfl) (fun _ _ _ h => h) (by kernel_rfl) hHeld ?_
            (try simp only [Act.put, List.setIfInBounds_toArray, List.set_cons_zero, List.set_cons_succ])
            refine held_skip (i := 16) rfl (by kernel_rfl) (by kernel_rfl) (by kernel_rfl) (fun _ _ _ h => h) (by kernel_rfl) hHeld ?_
            (try simp only [Act.put, List.setIfInBounds_toArray, List.set_cons_zero, List.set_cons_succ])
            refine held_skip (i := 17) rfl (by kernel_rfl) (by kernel_rfl) (by kernel_rfl) (fun _ _ _ h => h) (by kernel_rfl) hHeld ?_
            (try simp only [Act.put, List.setIfInBounds_toArray, List.set_cons_zero, List.set_cons_succ])
            refine held_take (i := 18) (v := ?_) rfl (by kernel_rfl) (by kernel_rfl) (by kernel_rfl) (fun _ _ _ h => h) (by kernel_rfl) ?_ hHeld ?_; rotate_left; focus (((intro w hSw; (try dsimp only at hSw); go_simp) <;> with_reducible rfl); done)
            (try simp only [Act.put, List.setIfInBounds_toArray, List.set_cons_zero, List.set_cons_succ])
            refine wpAnyH_done (by kernel_rfl) ?_ _
            go_wp2
            go_ret
            exact ⟨by rw [← HRES.out, BAD0.out (Bool.eq_false_iff.2 hnm)]; rfl, BW.out.trans ((below_undrew hb1).mono (by have := hbl.size; simp; omega))⟩
        · have b1 : decide (0 < (k : Int)) = true := by simp; omega
          have b1' : decide (0 < k) = true := by simp; omega
          obtain ⟨m, hm⟩ : ∃ m, m = k - 1 := ⟨_, rfl⟩
          have hwr : IntKind.i64.wrap ((k : Int) - 1) = (m : Int) := by rw [hm]; (have : (k : Int) - 1 = ((k - 1 : Nat) : Int) := by omega); rw [this]; exact IntWalk.i64_in _ ⟨by omega, by omega⟩
          have hk1' : (0 : Int) ≤ (m : Int) := by omega
          have hk2' : (m : Int) < (vs.length : Int) := by omega
          rw [← hm] at hp0
          clear hm
          go_wp2_with fail
          by_cases hnm : nameOk n = true
          · skip
            refine wp_region_held_drew (S := (fun w' => w'.cell? ⟨wr.heap.size, 0, none⟩ = some (.string n) ∧ w'.cell? ⟨g, m * 2, none⟩ = some (.string p))) (by kernel_rfl) (by go_keep) (fun hHeld => ?_)
            refine held_take (i := 0) (v := ?_) rfl (by kernel_rfl) (by kernel_rfl) (by kernel_rfl) (fun _ _ _ h => h) (by kernel_rfl) ?_ hHeld ?_; rotate_left; focus (((intro w hSw; (try dsimp only at hSw); go_simp) <;> with_reducible rfl); done)
            (try simp only [Act.put, List.setIfInBounds_toArray, List.set_cons_zero, List.set_cons_succ])
            refine held_take (i := 1) (v := ?_) rfl (by kernel_rfl) (by kernel_rfl) (by kernel_rfl) (fun _ _ _ h => h) (by kernel_rfl) ?_ hHeld ?_; rotate_left; focus (((intro w hSw; (try dsimp only at hSw); go_simp) <;> with_reducible rfl); done)
            (try simp only [Act.put, List.setIfInBounds_toArray, List.set_cons_zero, List.set_cons_succ])
            refine held_call (i := 2) rfl (by kernel_rfl) (by kernel_rfl) (fun K hK => ?_)
            go_simp
            (refine (name_is n _ (hnm) _).mono ?_; rintro e w1 ⟨rfl, hb1⟩; try simp only [] )
            refine hK.out _ _ ?_ (fun hHeld2 => ?_)
            · exact ⟨cell_below hb1 hHeld.1, cell_below hb1 hHeld.2⟩
            clear hK K hHeld
            have hHeld := hHeld2
            clear hHeld2
            (try simp only [Act.put, List.setIfInBounds_toArray, List.set_cons_zero, List.set_cons_succ])
            refine held_take (i := 3) (v := ?_) rfl (by kernel_rfl) (by kernel_rfl) (by kernel_rfl) (fun _ _ _ h => h) (by kernel_rfl) ?_ hHeld ?_; rotate_left; focus (((intro w hSw; (try dsimp only at hSw); go_simp) <;> with_reducible rfl); done)
            (try simp only [Act.put, List.setIfInBounds_toArray, List.set_cons_zero, List.set_cons_succ])
            refine held_take (i := 4) (v := ?_) rfl (by kernel_rfl) (by kernel_rfl) (by kernel_rfl) (fun _ _ _ h => h) (by kernel_rfl) ?_ hHeld ?_; rotate_left; focus (((intro w hSw; (try dsimp only at hSw); go_simp) <;> with_reducible rfl); done)
            (try simp only [Act.put, List.setIfInBounds_toArray, List.set_cons_zero, List.set_cons_succ])
            refine held_take (i := 5) (v := ?_) rfl (by kernel_rfl) (by kernel_rfl) (by kernel_rfl) (fun _ _ _ h => h) (by kernel_rfl) ?_ hHeld ?_; rotate_left; focus (((intro w hSw; (try dsimp only at hSw); go_simp) <;> with_reducible rfl); done)
            (try simp only [Act.put, List.setIfInBounds_toArray, List.set_cons_zero, List.set_cons_succ])
            refine held_take (i := 6) (v := ?_) rfl (by kernel_rfl) (by kernel_rfl) (by kernel_rfl) (fun _ _ _ h => h) (by kernel_rfl) ?_ hHeld ?_; rotate_left; focus (((intro w hSw; (try dsimp only at hSw); go_simp) <;> with_reducible rfl); done)
            (try simp only [Act.put, List.setIfInBounds_toArray, List.set_cons_zero, List.set_cons_succ])
            refine held_take (i := 7) (v := ?_) rfl (by kernel_rfl) (by kernel_rfl) (by kernel_rfl) (fun _ _ _ h => h) (by kernel_rfl) ?_ hHeld ?_; rotate_left; focus (((intro w hSw; (try dsimp only at hSw); go_simp) <;> with_reducible rfl); done)
            (try simp only [Act.put, List.setIfInBounds_toArray, List.set_cons_zero, List.set_cons_succ])
            refine held_take (i := 8) (v := ?_) rfl (by kernel_rfl) (by kernel_rfl) (by kernel_rfl) (fun _ _ _ h => h) (by kernel_rfl) ?_ hHeld ?_; rotate_left; focus (((intro w hSw; (try dsimp only at hSw); go_simp) <;> with_reducible rfl); done)
            (try simp only [Act.put, List.setIfInBounds_toArray, List.set_cons_zero, List.set_cons_succ])
            refine held_take (i := 9) (v := ?_) rfl (by kernel_rfl) (by kernel_rfl) (by kernel_rfl) (fun _ _ _ h => h) (by kernel_rfl) ?_ hHeld ?_; rotate_left; focus (((intro w hSw; (try dsimp only at hSw); go_simp) <;> with_reducible rfl); done)
            (try simp only [Act.put, List.setIfInBounds_toArray, List.set_cons_zero, List.set_cons_succ])
            refine held_take (i := 10) (v := ?_) rfl (by kernel_rfl) (by kernel_rfl) (by kernel_rfl) (fun _ _ _ h => h) (by kernel_rfl) ?_ hHeld ?_; rotate_left; focus (((intro w hSw; (try dsimp only at hSw); go_simp) <;> with_reducible rfl); done)
            (try simp only [Act.put, List.setIfInBounds_toArray, List.set_cons_zero, List.set_cons_succ])
            refine held_take (i := 11) (v := ?_) rfl (by kernel_rfl) (by kernel_rfl) (by kernel_rfl) (fun _ _ _ h => h) (by kernel_rfl) ?_ hHeld ?_; rotate_left; focus (((intro w hSw; (try dsimp only at hSw); go_simp) <;> with_reducible rfl); done)
            (try simp only [Act.put, List.setIfInBounds_toArray, List.set_cons_zero, List.set_cons_succ])
            refine held_take (i := 12) (v := ?_) rfl (by kernel_rfl) (by kernel_rfl) (by kernel_rfl) (fun _ _ _ h => h) (by kernel_rfl) ?_ hHeld ?_; rotate_left; focus (((intro w hSw; (try dsimp only at hSw); go_simp) <;> with_reducible rfl); done)
            (try simp only [Act.put, List.setIfInBounds_toArray, List.set_cons_zero, List.set_cons_succ])
            refine held_take (i := 13) (v := ?_) rfl (by kernel_rfl) (by kernel_rfl) (by kernel_rfl) (fun _ _ _ h => h) (by kernel_rfl) ?_ hHeld ?_; rotate_left; focus (((intro w hSw; (try dsimp only at hSw); go_simp) <;> with_reducible rfl); done)
            (try simp only [Act.put, List.setIfInBounds_toArray, List.set_cons_zero, List.set_cons_succ])
            refine held_take (i := 14) (v := ?_) rfl (by kernel_rfl) (by kernel_rfl) (by kernel_rfl) (fun _ _ _ h => h) (by kernel_rfl) ?_ hHeld ?_; rotate_left; focus (((intro w hSw; (try dsimp only at hSw); go_simp) <;> with_reducible rfl); done)
            (try simp only [Act.put, List.setIfInBounds_toArray, List.set_cons_zero, List.set_cons_succ])
            refine held_take (i := 15) (v := ?_) rfl (by kernel_rfl) (by kernel_rfl) (by kernel_rfl) (fun _ _ _ h => h) (by kernel_rfl) ?_ hHeld ?_; rotate_left; focus (((intro w hSw; (try dsimp only at hSw); go_simp) <;> with_reducible rfl); done)
            (try simp only [Act.put, List.setIfInBounds_toArray, List.set_cons_zero, List.set_cons_succ])
            refine held_take (i := 16) (v := ?_) rfl (by kernel_rfl) (by kernel_rfl) (by kernel_rfl) (fun _ _ _ h => h) (by kernel_rfl) ?_ hHeld ?_; rotate_left; focus (((intro w hSw; (try dsimp only at hSw); go_simp) <;> with_reducible rfl); done)
            (try simp only [Act.put, List.setIfInBounds_toArray, List.set_cons_zero, List.set_cons_succ])
            refine held_take (i := 17) (v := ?_) rfl (by kernel_rfl) (by kernel_rfl) (by kernel_rfl) (fun _ _ _ h => h) (by kernel_rfl) ?_ hHeld ?_; rotate_left; focus (((intro w hSw; (try dsimp only at hSw); go_simp) <;> with_reducible rfl); done)
            (try simp only [Act.put, List.setIfInBounds_toArray, List.set_cons_zero, List.set_cons_succ])
            refine held_take (i := 18) (v := ?_) rfl (by kernel_rfl) (by kernel_rfl) (by kernel_rfl) (fun _ _ _ h => h) (by kernel_rfl) ?_ hHeld ?_; rotate_left; focus (((intro w hSw; (try dsimp only at hSw); go_simp) <;> with_reducible rfl); done)
            (try simp only [Act.put, List.setIfInBounds_toArray, List.set_cons_zero, List.set_cons_succ])
            refine wpAnyH_done (by kernel_rfl) ?_ _
            go_wp2
            · go_ret
              exact ⟨by rw [← HRES.out, BAD.out hnm (Or.inr ⟨hk0, by unfold strLe; rw [Bool.or_eq_true]; assumption⟩)]; rfl, BW.out.trans ((below_undrew hb1).mono (by have := hbl.size; simp; omega))⟩
            · go_roundw
              case rel => exact ⟨k + 1, by omega, by go_num, GOOD.out hnm (Or.inr (by unfold strLe; rw [Bool.or_eq_false_iff]; assumption)), BW.out.trans ((below_undrew hb1).mono (by have := hbl.size; simp; omega))⟩
              case measure => simp [intOf]; omega
          · skip
            refine wp_region_held_drew (S := (fun w' => w'.cell? ⟨wr.heap.size, 0, none⟩ = some (.string n) ∧ w'.cell? ⟨g, m * 2, none⟩ = some (.string p))) (by kernel_rfl) (by go_keep) (fun hHeld => ?_)
            refine held_take (i := 0) (v := ?_) rfl (by kernel_rfl) (by kernel_rfl) (by kernel_rfl) (fun _ _ _ h => h) (by kernel_rfl) ?_ hHeld ?_; rotate_left; focus (((intro w hSw; (try dsimp only at hSw); go_simp) <;> with_reducible rfl); done)
            (try simp only [Act.put, List.setIfInBounds_toArray, List.set_cons_zero, List.set_cons_succ])
            refine held_take (i := 1) (v := ?_) rfl (by kernel_rfl) (by kernel_rfl) (by kernel_rfl) (fun _ _ _ h => h) (by kernel_rfl) ?_ hHeld ?_; rotate_left; focus (((intro w hSw; (try dsimp only at hSw); go_simp) <;> with_reducible rfl); done)
            (try simp only [Act.put, List.setIfInBounds_toArray, List.set_cons_zero, List.set_cons_succ])
            refine held_call (i := 2) rfl (by kernel_rfl) (by kernel_rfl) (fun K hK => ?_)
            go_simp
            (refine (name_is n _ (Bool.eq_false_iff.2 hnm) _).mono ?_; rintro e w1 ⟨rfl, hb1⟩; try simp only [] )
            refine hK.out _ _ ?_ (fun hHeld2 => ?_)
            · exact ⟨cell_below hb1 hHeld.1, cell_below hb1 hHeld.2⟩
            clear hK K hHeld
            have hHeld := hHeld2
            clear hHeld2
            (try simp only [Act.put, List.setIfInBounds_toArray, List.set_cons_zero, List.set_cons_succ])
            refine held_take (i := 3) (v := ?_) rfl (by kernel_rfl) (by kernel_rfl) (by kernel_rfl) (fun _ _ _ h => h) (by kernel_rfl) ?_ hHeld ?_; rotate_left; focus (((intro w hSw; (try dsimp only at hSw); go_simp) <;> with_reducible rfl); done)
            (try simp only [Act.put, List.setIfInBounds_toArray, List.set_cons_zero, List.set_cons_succ])
            refine held_take (i := 4) (v := ?_) rfl (by kernel_rfl) (by kernel_rfl) (by kernel_rfl) (fun _ _ _ h => h) (by kernel_rfl) ?_ hHeld ?_; rotate_left; focus (((intro w hSw; (try dsimp only at hSw); go_simp) <;> with_reducible rfl); done)
            (try simp only [Act.put, List.setIfInBounds_toArray, List.set_cons_zero, List.set_cons_succ])
            refine held_skip (i := 5) rfl (by kernel_rfl) (by kernel_rfl) (by kernel_rfl) (fun _ _ _ h => h) (by kernel_rfl) hHeld ?_
            (try simp only [Act.put, List.setIfInBounds_toArray, List.set_cons_zero, List.set_cons_succ])
            refine held_skip (i := 6) rfl (by kernel_rfl) (by kernel_rfl) (by kernel_rfl) (fun _ _ _ h => h) (by kernel_rfl) hHeld ?_
            (try simp only [Act.put, List.setIfInBounds_toArray, List.set_cons_zero, List.set_cons_succ])
            refine held_skip (i := 7) rfl (by kernel_rfl) (by kernel_rfl) (by kernel_rfl) (fun _ _ _ h => h) (by kernel_rfl) hHeld ?_
            (try simp only [Act.put, List.setIfInBounds_toArray, List.set_cons_zero, List.set_cons_succ])
            refine held_skip (i := 8) rfl (by kernel_rfl) (by kernel_rfl) (by kernel_rfl) (fun _ _ _ h => h) (by kernel_rfl) hHeld ?_
            (try simp only [Act.put, List.setIfInBounds_toArray, List.set_cons_zero, List.set_cons_succ])
            refine held_skip (i := 9) rfl (by kernel_rfl) (by kernel_rfl) (by kernel_rfl) (fun _ _ _ h => h) (by kernel_rfl) hHeld ?_
            (try simp only [Act.put, List.setIfInBounds_toArray, List.set_cons_zero, List.set_cons_succ])
            refine held_skip (i := 10) rfl (by kernel_rfl) (by kernel_rfl) (by kernel_rfl) (fun _ _ _ h => h) (by kernel_rfl) hHeld ?_
            (try simp only [Act.put, List.setIfInBounds_toArray, List.set_cons_zero, List.set_cons_succ])
            refine held_skip (i := 11) rfl (by kernel_rfl) (by kernel_rfl) (by kernel_rfl) (fun _ _ _ h => h) (by kernel_rfl) hHeld ?_
            (try simp only [Act.put, List.setIfInBounds_toArray, List.set_cons_zero, List.set_cons_succ])
            refine held_skip (i := 12) rfl (by kernel_rfl) (by kernel_rfl) (by kernel_rfl) (fun _ _ _ h => h) (by kernel_rfl) hHeld ?_
            (try simp only [Act.put, List.setIfInBounds_toArray, List.set_cons_zero, List.set_cons_succ])
            refine held_skip (i := 13) rfl (by kernel_rfl) (by kernel_rfl) (by kernel_rfl) (fun _ _ _ h => h) (by kernel_rfl) hHeld ?_
            (try simp only [Act.put, List.setIfInBounds_toArray, List.set_cons_zero, List.set_cons_succ])
            refine held_skip (i := 14) rfl (by kernel_rfl) (by kernel_rfl) (by kernel_rfl) (fun _ _ _ h => h) (by kernel_rfl) hHeld ?_
            (try simp only [Act.put, List.setIfInBounds_toArray, List.set_cons_zero, List.set_cons_succ])
            refine held_skip (i := 15) rfl (by kernel_rfl) (by kernel_rfl) (by kernel_rfl) (fun _ _ _ h => h) (by kernel_rfl) hHeld ?_
            (try simp only [Act.put, List.setIfInBounds_toArray, List.set_cons_zero, List.set_cons_succ])
            refine held_skip (i := 16) rfl (by kernel_rfl) (by kernel_rfl) (by kernel_rfl) (fun _ _ _ h => h) (by kernel_rfl) hHeld ?_
            (try simp only [Act.put, List.setIfInBounds_toArray, List.set_cons_zero, List.set_cons_succ])
            refine held_skip (i := 17) rfl (by kernel_rfl) (by kernel_rfl) (by kernel_rfl) (fun _ _ _ h => h) (by kernel_rfl) hHeld ?_
            (try simp only [Act.put, List.setIfInBounds_toArray, List.set_cons_zero, List.set_cons_succ])
            refine held_take (i := 18) (v := ?_) rfl (by kernel_rfl) (by kernel_rfl) (by kernel_rfl) (fun _ _ _ h => h) (by kernel_rfl) ?_ hHeld ?_; rotate_left; focus (((intro w hSw; (try dsimp only at hSw); go_simp) <;> with_reducible rfl); done)
            (try simp only [Act.put, List.setIfInBounds_toArray, List.set_cons_zero, List.set_cons_succ])
            refine wpAnyH_done (by kernel_rfl) ?_ _
            go_wp2
            go_ret
            exact ⟨by rw [← HRES.out, BAD0.out (Bool.eq_false_iff.2 hnm)]; rfl, BW.out.trans ((below_undrew hb1).mono (by have := hbl.size; simp; omega))⟩
      · skip
        have BW0 : Below w.heap.size w (wr.alloc (.cells #[.string n, .iface T x] 112)) := hbl.alloc (by have := hbl.size; omega) _
        have BW := Lib.hid BW0
        clear BW0
        by_cases hk0 : k = 0
        · subst hk0
          have e0 : ((0 : Nat) : Int) = 0 := rfl
          have ez : 0 * 2 = 0 := rfl
          simp only [e0, ez] at hc0 hc1 hk1 ⊢
          clear e0 ez hp0
          go_wp2_with fail
          by_cases hnm : nameOk n = true
          · skip
            refine wp_region_held_drew (S := (fun w' => w'.cell? ⟨wr.heap.size, 0, none⟩ = some (.string n))) (by kernel_rfl) (by go_keep) (fun hHeld => ?_)
            refine held_take (i := 0) (v := ?_) rfl (by kernel_rfl) (by kernel_rfl) (by kernel_rfl) (fun _ _ _ h => h) (by kernel_rfl) ?_ hHeld ?_; rotate_left; focus (((intro w hSw; (try dsimp only at hSw); go_simp) <;> with_reducible rfl); done)
            (try simp only [Act.put, List.setIfInBounds_toArray, List.set_cons_zero, List.set_cons_succ])
            refine held_take (i := 1) (v := ?_) rfl (by kernel_rfl) (by kernel_rfl) (by kernel_rfl) (fun _ _ _ h => h) (by kernel_rfl) ?_ hHeld ?_; rotate_left; focus (((intro w hSw; (try dsimp only at hSw); go_simp) <;> with_reducible rfl); done)
            (try simp only [Act.put, List.setIfInBounds_toArray, List.set_cons_zero, List.set_cons_succ])
            refine held_call (i := 2) rfl (by kernel_rfl) (by kernel_rfl) (fun K hK => ?_)
            go_simp
            (refine (name_is n _ (hnm) _).mono ?_; rintro e w1 ⟨rfl, hb1⟩; try simp only [] )
            refine hK.out _ _ ?_ (fun hHeld2 => ?_)
            · exact cell_below hb1 hHeld
            clear hK K hHeld
            have hHeld := hHeld2
            clear hHeld2
            (try simp only [Act.put, List.setIfInBounds_toArray, List.set_cons_zero, List.set_cons_succ])
            refine held_take (i := 3) (v := ?_) rfl (by kernel_rfl) (by kernel_rfl) (by kernel_rfl) (fun _ _ _ h => h) (by kernel_rfl) ?_ hHeld ?_; rotate_left; focus (((intro w hSw; (try dsimp only at hSw); go_simp) <;> with_reducible rfl); done)
            (try simp only [Act.put, List.setIfInBounds_toArray, List.set_cons_zero, List.set_cons_succ])
            refine held_take (i := 4) (v := ?_) rfl (by kernel_rfl) (by kernel_rfl) (by kernel_rfl) (fun _ _ _ h => h) (by kernel_rfl) ?_ hHeld ?_; rotate_left; focus (((intro w hSw; (try dsimp only at hSw); go_simp) <;> with_reducible rfl); done)
            (try simp only [Act.put, List.setIfInBounds_toArray, List.set_cons_zero, List.set_cons_succ])
            refine held_take (i := 5) (v := ?_) rfl (by kernel_rfl) (by kernel_rfl) (by kernel_rfl) (fun _ _ _ h => h) (by kernel_rfl) ?_ hHeld ?_; rotate_left; focus (((intro w hSw; (try dsimp only at hSw); go_simp) <;> with_reducible rfl); done)
            (try simp only [Act.put, List.setIfInBounds_toArray, List.set_cons_zero, List.set_cons_succ])
            refine held_take (i := 6) (v := ?_) rfl (by kernel_rfl) (by kernel_rfl) (by kernel_rfl) (fun _ _ _ h => h) (by kernel_rfl) ?_ hHeld ?_; rotate_left; focus (((intro w hSw; (try dsimp only at hSw); go_simp) <;> with_reducible rfl); done)
            (try simp only [Act.put, List.setIfInBounds_toArray, List.set_cons_zero, List.set_cons_succ])
            refine held_take (i := 7) (v := ?_) rfl (by kernel_rfl) (by kernel_rfl) (by kernel_rfl) (fun _ _ _ h => h) (by kernel_rfl) ?_ hHeld ?_; rotate_left; focus (((intro w hSw; (try dsimp only at hSw); go_simp) <;> with_reducible rfl); done)
            (try simp only [Act.put, List.setIfInBounds_toArray, List.set_cons_zero, List.set_cons_succ])
            refine held_skip (i := 8) rfl (by kernel_rfl) (by kernel_rfl) (by kernel_rfl) (fun _ _ _ h => h) (by kernel_rfl) hHeld ?_
            (try simp only [Act.put, List.setIfInBounds_toArray, List.set_cons_zero, List.set_cons_succ])
            refine held_skip (i := 9) rfl (by kernel_rfl) (by kernel_rfl) (by kernel_rfl) (fun _ _ _ h => h) (by kernel_rfl) hHeld ?_
            (try simp only [Act.put, List.setIfInBounds_toArray, List.set_cons_zero, List.set_cons_succ])
            refine held_skip (i := 10) rfl (by kernel_rfl) (by kernel_rfl) (by kernel_rfl) (fun _ _ _ h => h) (by kernel_rfl) hHeld ?_
            (try simp only [Act.put, List.setIfInBounds_toArray, List.set_cons_zero, List.set_cons_succ])
            refine held_skip (i := 11) rfl (by kernel_rfl) (by kernel_rfl) (by kernel_rfl) (fun _ _ _ h => h) (by kernel_rfl) hHeld ?_
            (try simp only [Act.put, List.setIfInBounds_toArray, List.set_cons_zero, List.set_cons_succ])
            refine held_skip (i := 12) rfl (by kernel_rfl) (by kernel_rfl) (by kernel_rfl) (fun _ _ _ h => h) (by kernel_rfl) hHeld ?_
            (try simp only [Act.put, List.setIfInBounds_toArray, List.set_cons_zero, List.set_cons_succ])
            refine held_skip (i := 13) rfl (by kernel_rfl) (by kernel_rfl) (by kernel_rfl) (fun _ _ _ h => h) (by kernel_rfl) hHeld ?_
            (try simp only [Act.put, List.setIfInBounds_toArray, List.set_cons_zero, List.set_cons_succ])
            refine held_skip (i := 14) rfl (by kernel_rfl) (by kernel_rfl) (by kernel_rfl) (fun _ _ _ h => h) (by kernel_rfl) hHeld ?_
            (try simp only [Act.put, List.setIfInBounds_toArray, List.set_cons_zero, List.set_cons_succ])
            refine held_skip (i := 15) rfl (by kernel_rfl) (by kernel_rfl) (by kernel_rfl) (fun _ _ _ h => h) (by kernel_rfl) hHeld ?_
            (try simp only [Act.put, List.setIfInBounds_toArray, List.set_cons_zero, List.set_cons_succ])
            refine held_skip (i := 16) rfl (by kernel_rfl) (by kernel_rfl) (by kernel_rfl) (fun _ _ _ h => h) (by kernel_rfl) hHeld ?_
            (try simp only [Act.put, List.setIfInBounds_toArray, List.set_cons_zero, List.set_cons_succ])
            refine held_take (i := 17) (v := ?_) rfl (by kernel_rfl) (by kernel_rfl) (by kernel_rfl) (fun _ _ _ h => h) (by kernel_rfl) ?_ hHeld ?_; rotate_left; focus (((intro w hSw; (try dsimp only at hSw); go_simp) <;> with_reducible rfl); done)
            (try simp only [Act.put, List.setIfInBounds_toArray, List.set_cons_zero, List.set_cons_succ])
            refine held_take (i := 18) (v := ?_) rfl (by kernel_rfl) (by kernel_rfl) (by kernel_rfl) (fun _ _ _ h => h) (by kernel_rfl) ?_ hHeld ?_; rotate_left; focus (((intro w hSw; (try dsimp only at hSw); go_simp) <;> with_reducible rfl); done)
            (try simp only [Act.put, List.setIfInBounds_toArray, List.set_cons_zero, List.set_cons_succ])
            refine wpAnyH_done (by kernel_rfl) ?_ _
            go_wp2
            go_roundw
            case rel => exact ⟨0 + 1, by omega, by go_num, GOOD.out hnm (Or.inl (by trivial)), BW.out.trans ((below_undrew hb1).mono (by have := hbl.size; simp; omega))⟩
            case measure => simp [intOf]; omega
          · skip
            refine wp_region_held_drew (S := (fun w' => w'.cell? ⟨wr.heap.size, 0, none⟩ = some (.string n))) (by kernel_rfl) (by go_keep) (fun hHeld => ?_)
            refine held_take (i := 0) (v := ?_) rfl (by kernel_rfl) (by kernel_rfl) (by kernel_rfl) (fun _ _ _ h => h) (by kernel_rfl) ?_ hHeld ?_; rotate_left; focus (((intro w hSw; (try dsimp only at hSw); go_simp) <;> with_reducible rfl); done)
            (try simp only [Act.put, List.setIfInBounds_toArray, List.set_cons_zero, List.set_cons_succ])
            refine held_take (i := 1) (v := ?_) rfl (by kernel_rfl) (by kernel_rfl) (by kernel_rfl) (fun _ _ _ h => h) (by kernel_rfl) ?_ hHeld ?_; rotate_left; focus (((intro w hSw; (try dsimp only at hSw); go_simp) <;> with_reducible rfl); done)
            (try simp only [Act.put, List.setIfInBounds_toArray, List.set_cons_zero, List.set_cons_succ])
            refine held_call (i := 2) rfl (by kernel_rfl) (by kernel_rfl) (fun K hK => ?_)
            go_simp
            (refine (name_is n _ (Bool.eq_false_iff.2 hnm) _).mono ?_; rintro e w1 ⟨rfl, hb1⟩; try simp only [] )
            refine hK.out _ _ ?_ (fun hHeld2 => ?_)
            · exact cell_below hb1 hHeld
            clear hK K hHeld
            have hHeld := hHeld2
            clear hHeld2
            (try simp only [Act.put, List.setIfInBounds_toArray, List.set_cons_zero, List.set_cons_succ])
            refine held_take (i := 3) (v := ?_) rfl (by kernel_rfl) (by kernel_rfl) (by kernel_rfl) (fun _ _ _ h => h) (by kernel_rfl) ?_ hHeld ?_; rotate_left; focus (((intro w hSw; (try dsimp only at hSw); go_simp) <;> with_reducible rfl); done)
            (try simp only [Act.put, List.setIfInBounds_toArray, List.set_cons_zero, List.set_cons_succ])
            refine held_take (i := 4) (v := ?_) rfl (by kernel_rfl) (by kernel_rfl) (by kernel_rfl) (fun _ _ _ h => h) (by kernel_rfl) ?_ hHeld ?_; rotate_left; focus (((intro w hSw; (try dsimp only at hSw); go_simp) <;> with_reducible rfl); done)
            (try simp only [Act.put, List.setIfInBounds_toArray, List.set_cons_zero, List.set_cons_succ])
            refine held_skip (i := 5) rfl (by kernel_rfl) (by kernel_rfl) (by kernel_rfl) (fun _ _ _ h => h) (by kernel_rfl) hHeld ?_
            (try simp only [Act.put, List.setIfInBounds_toArray, List.set_cons_zero, List.set_cons_succ])
            refine held_skip (i := 6) rfl (by kernel_rfl) (by kernel_rfl) (by kernel_rfl) (fun _ _ _ h => h) (by kernel_rfl) hHeld ?_
            (try simp only [Act.put, List.setIfInBounds_toArray, List.set_cons_zero, List.set_cons_succ])
            refine held_skip (i := 7) rfl (by kernel_rfl) (by kernel_rfl) (by kernel_rfl) (fun _ _ _ h => h) (by kernel_rfl) hHeld ?_
            (try simp only [Act.put, List.setIfInBounds_toArray, List.set_cons_zero, List.set_cons_succ])
            refine held_skip (i := 8) rfl (by kernel_rfl) (by kernel_rfl) (by kernel_rfl) (fun _ _ _ h => h) (by kernel_rfl) hHeld ?_
            (try simp only [Act.put, List.setIfInBounds_toArray, List.set_cons_zero, List.set_cons_succ])
            refine held_skip (i := 9) rfl (by kernel_rfl) (by kernel_rfl) (by kernel_rfl) (fun _ _ _ h => h) (by kernel_rfl) hHeld ?_
            (try simp only [Act.put, List.setIfInBounds_toArray, List.set_cons_zero, List.set_cons_succ])
            refine held_skip (i := 10) rfl (by kernel_rfl) (by kernel_rfl) (by kernel_rfl) (fun _ _ _ h => h) (by kernel_rfl) hHeld ?_
            (try simp only [Act.put, List.setIfInBounds_toArray, List.set_cons_zero, List.set_cons_succ])
            refine held_skip (i := 11) rfl (by kernel_rfl) (by kernel_rfl) (by kernel_rfl) (fun _ _ _ h => h) (by kernel_rfl) hHeld ?_
            (try simp only [Act.put, List.setIfInBounds_toArray, List.set_cons_zero, List.set_cons_succ])
            refine held_skip (i := 12) rfl (by kernel_rfl) (by kernel_rfl) (by kernel_rfl) (fun _ _ _ h => h) (by kernel_rfl) hHeld ?_
            (try simp only [Act.put, List.setIfInBounds_toArray, List.set_cons_zero, List.set_cons_succ])
            refine held_skip (i := 13) rfl (by kernel_rfl) (by kernel_rfl) (by kernel_rfl) (fun _ _ _ h => h) (by kernel_rfl) hHeld ?_
            (try simp only [Act.put, List.setIfInBounds_toArray, List.set_cons_zero, List.set_cons_succ])
            refine held_skip (i := 14) rfl (by kernel_rfl) (by kernel_rfl) (by kernel_rfl) (fun _ _ _ h => h) (by kernel_rfl) hHeld ?_
            (try simp only [Act.put, List.setIfInBounds_toArray, List.set_cons_zero, List.set_cons_succ])
            refine held_skip (i := 15) rfl (by kernel_rfl) (by kernel_rfl) (by kernel_rfl) (fun _ _ _ h => h) (by kernel_rfl) hHeld ?_
            (try simp only [Act.put, List.setIfInBounds_toArray, List.set_cons_zero, List.set_cons_succ])
            refine held_skip (i := 16) rfl (by kernel_rfl) (by kernel_rfl) (by kernel_rfl) (fun _ _ _ h => h) (by kernel_rfl) hHeld ?_
            (try simp only [Act.put, List.setIfInBounds_toArray, List.set_cons_zero, List.set_cons_succ])
            refine held_skip (i := 17) rfl (by kernel_rfl) (by kernel_rfl) (by kernel_rfl) (fun _ _ _ h => h) (by kernel_rfl) hHeld ?_
            (try simp only [Act.put, List.setIfInBounds_toArray, List.set_cons_zero, List.set_cons_succ])
            refine held_take (i := 18) (v := ?_) rfl (by kernel_rfl) (by kernel_rfl) (by kernel_rfl) (fun _ _ _ h => h) (by kernel_rfl) ?_ hHeld ?_; rotate_left; focus (((intro w hSw; (try dsimp only at hSw); go_simp) <;> with_reducible rfl); done)
            (try simp only [Act.put, List.setIfInBounds_toArray, List.set_cons_zero, List.set_cons_succ])
            refine wpAnyH_done (by kernel_rfl) ?_ _
            go_wp2
            go_ret
            exact ⟨by rw [← HRES.out, BAD0.out (Bool.eq_false_iff.2 hnm)]; rfl, BW.out.trans ((below_undrew hb1).mono (by have := hbl.size; simp; omega))⟩
        · have b1 : decide (0 < (k : Int)) = true := by simp; omega
          have b1' : decide (0 < k) = true := by simp; omega
          obtain ⟨m, hm⟩ : ∃ m, m = k - 1 := ⟨_, rfl⟩
          have hwr : IntKind.i64.wrap ((k : Int) - 1) = (m : Int) := by rw [hm]; (have : (k : Int) - 1 = ((k - 1 : Nat) : Int) := by omega); rw [this]; exact IntWalk.i64_in _ ⟨by omega, by omega⟩
          have hk1' : (0 : Int) ≤ (m : Int) := by omega
          have hk2' : (m : Int) < (vs.length : Int) := by omega
          rw [← hm] at hp0
          clear hm
          go_wp2_with fail
          by_cases hnm : nameOk n = true
          · skip
            refine wp_region_held_drew (S := (fun w' => w'.cell? ⟨wr.heap.size, 0, none⟩ = some (.string n) ∧ w'.cell? ⟨g, m * 2, none⟩ = some (.string p))) (by kernel_rfl) (by go_keep) (fun hHeld => ?_)
            refine held_take (i := 0) (v := ?_) rfl (by kernel_rfl) (by kernel_rfl) (by kernel_rfl) (fun _ _ _ h => h) (by kernel_rfl) ?_ hHeld ?_; rotate_left; focus (((intro w hSw; (try dsimp only at hSw); go_simp) <;> with_reducible rfl); done)
            (try simp only [Act.put, List.setIfInBounds_toArray, List.set_cons_zero, List.set_cons_succ])
            refine held_take (i := 1) (v := ?_) rfl (by kernel_rfl) (by kernel_rfl) (by kernel_rfl) (fun _ _ _ h => h) (by kernel_rfl) ?_ hHeld ?_; rotate_left; focus (((intro w hSw; (try dsimp only at hSw); go_simp) <;> with_reducible rfl); done)
            (try simp only [Act.put, List.setIfInBounds_toArray, List.set_cons_zero, List.set_cons_succ])
            refine held_call (i := 2) rfl (by kernel_rfl) (by kernel_rfl) (fun K hK => ?_)
            go_simp
            (refine (name_is n _ (hnm) _).mono ?_; rintro e w1 ⟨rfl, hb1⟩; try simp only [] )
            refine hK.out _ _ ?_ (fun hHeld2 => ?_)
            · exact ⟨cell_below hb1 hHeld.1, cell_below hb1 hHeld.2⟩
            clear hK K hHeld
            have hHeld := hHeld2
            clear hHeld2
            (try simp only [Act.put, List.setIfInBounds_toArray, List.set_cons_zero, List.set_cons_succ])
            refine held_take (i := 3) (v := ?_) rfl (by kernel_rfl) (by kernel_rfl) (by kernel_rfl) (fun _ _ _ h => h) (by kernel_rfl) ?_ hHeld ?_; rotate_left; focus (((intro w hSw; (try dsimp only at hSw); go_simp) <;> with_reducible rfl); done)
            (try simp only [Act.put, List.setIfInBounds_toArray, List.set_cons_zero, List.set_cons_succ])
            refine held_take (i := 4) (v := ?_) rfl (by kernel_rfl) (by kernel_rfl) (by kernel_rfl) (fun _ _ _ h => h) (by kernel_rfl) ?_ hHeld ?_; rotate_left; focus (((intro w hSw; (try dsimp only at hSw); go_simp) <;> with_reducible rfl); done)
            (try simp only [Act.put, List.setIfInBounds_toArray, List.set_cons_zero, List.set_cons_succ])
            refine held_take (i := 5) (v := ?_) rfl (by kernel_rfl) (by kernel_rfl) (by kernel_rfl) (fun _ _ _ h => h) (by kernel_rfl) ?_ hHeld ?_; rotate_left; focus (((intro w hSw; (try dsimp only at hSw); go_simp) <;> with_reducible rfl); done)
            (try simp only [Act.put, List.setIfInBounds_toArray, List.set_cons_zero, List.set_cons_succ])
            refine held_take (i := 6) (v := ?_) rfl (by kernel_rfl) (by kernel_rfl) (by kernel_rfl) (fun _ _ _ h => h) (by kernel_rfl) ?_ hHeld ?_; rotate_left; focus (((intro w hSw; (try dsimp only at hSw); go_simp) <;> with_reducible rfl); done)
            (try simp only [Act.put, List.setIfInBounds_toArray, List.set_cons_zero, List.set_cons_succ])
            refine held_take (i := 7) (v := ?_) rfl (by kernel_rfl) (by kernel_rfl) (by kernel_rfl) (fun _ _ _ h => h) (by kernel_rfl) ?_ hHeld ?_; rotate_left; focus (((intro w hSw; (try dsimp only at hSw); go_simp) <;> with_reducible rfl); done)
            (try simp only [Act.put, List.setIfInBounds_toArray, List.set_cons_zero, List.set_cons_succ])
            refine held_take (i := 8) (v := ?_) rfl (by kernel_rfl) (by kernel_rfl) (by kernel_rfl) (fun _ _ _ h => h) (by kernel_rfl) ?_ hHeld ?_; rotate_left; focus (((intro w hSw; (try dsimp only at hSw); go_simp) <;> with_reducible rfl); done)
            (try simp only [Act.put, List.setIfInBounds_toArray, List.set_cons_zero, List.set_cons_succ])
            refine held_take (i := 9) (v := ?_) rfl (by kernel_rfl) (by kernel_rfl) (by kernel_rfl) (fun _ _ _ h => h) (by kernel_rfl) ?_ hHeld ?_; rotate_left; focus (((intro w hSw; (try dsimp only at hSw); go_simp) <;> with_reducible rfl); done)
            (try simp only [Act.put, List.setIfInBounds_toArray, List.set_cons_zero, List.set_cons_succ])
            refine held_take (i := 10) (v := ?_) rfl (by kernel_rfl) (by kernel_rfl) (by kernel_rfl) (fun _ _ _ h => h) (by kernel_rfl) ?_ hHeld ?_; rotate_left; focus (((intro w hSw; (try dsimp only at hSw); go_simp) <;> with_reducible rfl); done)
            (try simp only [Act.put, List.setIfInBounds_toArray, List.set_cons_zero, List.set_cons_succ])
            refine held_take (i := 11) (v := ?_) rfl (by kernel_rfl) (by kernel_rfl) (by kernel_rfl) (fun _ _ _ h => h) (by kernel_rfl) ?_ hHeld ?_; rotate_left; focus (((intro w hSw; (try dsimp only at hSw); go_simp) <;> with_reducible rfl); done)
            (try simp only [Act.put, List.setIfInBounds_toArray, List.set_cons_zero, List.set_cons_succ])
            refine held_take (i := 12) (v := ?_) rfl (by kernel_rfl) (by kernel_rfl) (by kernel_rfl) (fun _ _ _ h => h) (by kernel_rfl) ?_ hHeld ?_; rotate_left; focus (((intro w hSw; (try dsimp only at hSw); go_simp) <;> with_reducible rfl); done)
            (try simp only [Act.put, List.setIfInBounds_toArray, List.set_cons_zero, List.set_cons_succ])
            refine held_take (i := 13) (v := ?_) rfl (by kernel_rfl) (by kernel_rfl) (by kernel_rfl) (fun _ _ _ h => h) (by kernel_rfl) ?_ hHeld ?_; rotate_left; focus (((intro w hSw; (try dsimp only at hSw); go_simp) <;> with_reducible rfl); done)
            (try simp only [Act.put, List.setIfInBounds_toArray, List.set_cons_zero, List.set_cons_succ])
            refine held_take (i := 14) (v := ?_) rfl (by kernel_rfl) (by kernel_rfl) (by kernel_rfl) (fun _ _ _ h => h) (by kernel_rfl) ?_ hHeld ?_; rotate_left; focus (((intro w hSw; (try dsimp only at hSw); go_simp) <;> with_reducible rfl); done)
            (try simp only [Act.put, List.setIfInBounds_toArray, List.set_cons_zero, List.set_cons_succ])
            refine held_take (i := 15) (v := ?_) rfl (by kernel_rfl) (by kernel_rfl) (by kernel_rfl) (fun _ _ _ h => h) (by kernel_rfl) ?_ hHeld ?_; rotate_left; focus (((intro w hSw; (try dsimp only at hSw); go_simp) <;> with_reducible rfl); done)
            (try simp only [Act.put, List.setIfInBounds_toArray, List.set_cons_zero, List.set_cons_succ])
            refine held_take (i := 16) (v := ?_) rfl (by kernel_rfl) (by kernel_rfl) (by kernel_rfl) (fun _ _ _ h => h) (by kernel_rfl) ?_ hHeld ?_; rotate_left; focus (((intro w hSw; (try dsimp only at hSw); go_simp) <;> with_reducible rfl); done)
            (try simp only [Act.put, List.setIfInBounds_toArray, List.set_cons_zero, List.set_cons_succ])
            refine held_take (i := 17) (v := ?_) rfl (by kernel_rfl) (by kernel_rfl) (by kernel_rfl) (fun _ _ _ h => h) (by kernel_rfl) ?_ hHeld ?_; rotate_left; focus (((intro w hSw; (try dsimp only at hSw); go_simp) <;> with_reducible rfl); done)
            (try simp only [Act.put, List.setIfInBounds_toArray, List.set_cons_zero, List.set_cons_succ])
            refine held_take (i := 18) (v := ?_) rfl (by kernel_rfl) (by kernel_rfl) (by kernel_rfl) (fun _ _ _ h => h) (by kernel_rfl) ?_ hHeld ?_; rotate_left; focus (((intro w hSw; (try dsimp only at hSw); go_simp) <;> with_reducible rfl); done)
            (try simp only [Act.put, List.setIfInBounds_toArray, List.set_cons_zero, List.set_cons_succ])
            refine wpAnyH_done (by kernel_rfl) ?_ _
            go_wp2
            · go_ret
              exact ⟨by rw [← HRES.out, BAD.out hnm (Or.inr ⟨hk0, by unfold strLe; rw [Bool.or_eq_true]; assumption⟩)]; rfl, BW.out.trans ((below_undrew hb1).mono (by have := hbl.size; simp; omega))⟩
            · go_roundw
              case rel => exact ⟨k + 1, by omega, by go_num, GOOD.out hnm (Or.inr (by unfold strLe; rw [Bool.or_eq_false_iff]; assumption)), BW.out.trans ((below_undrew hb1).mono (by have := hbl.size; simp; omega))⟩
              case measure => simp [intOf]; omega
          · skip
            refine wp_region_held_drew (S := (fun w' => w'.cell? ⟨wr.heap.size, 0, none⟩ = some (.string n) ∧ w'.cell? ⟨g, m * 2, none⟩ = some (.string p))) (by kernel_rfl) (by go_keep) (fun hHeld => ?_)
            refine held_take (i := 0) (v := ?_) rfl (by kernel_rfl) (by kernel_rfl) (by kernel_rfl) (fun _ _ _ h => h) (by kernel_rfl) ?_ hHeld ?_; rotate_left; focus (((intro w hSw; (try dsimp only at hSw); go_simp) <;> with_reducible rfl); done)
            (try simp only [Act.put, List.setIfInBounds_toArray, List.set_cons_zero, List.set_cons_succ])
            refine held_take (i := 1) (v := ?_) rfl (by kernel_rfl) (by kernel_rfl) (by kernel_rfl) (fun _ _ _ h => h) (by kernel_rfl) ?_ hHeld ?_; rotate_left; focus (((intro w hSw; (try dsimp only at hSw); go_simp) <;> with_reducible rfl); done)
            (try simp only [Act.put, List.setIfInBounds_toArray, List.set_cons_zero, List.set_cons_succ])
            refine held_call (i := 2) rfl (by kernel_rfl) (by kernel_rfl) (fun K hK => ?_)
            go_simp
            (refine (name_is n _ (Bool.eq_false_iff.2 hnm) _).mono ?_; rintro e w1 ⟨rfl, hb1⟩; try simp only [] )
            refine hK.out _ _ ?_ (fun hHeld2 => ?_)
            · exact ⟨cell_below hb1 hHeld.1, cell_below hb1 hHeld.2⟩
            clear hK K hHeld
            have hHeld := hHeld2
            clear hHeld2
            (try simp only [Act.put, List.setIfInBounds_toArray, List.set_cons_zero, List.set_cons_succ])
            refine held_take (i := 3) (v := ?_) rfl (by kernel_rfl) (by kernel_rfl) (by kernel_rfl) (fun _ _ _ h => h) (by kernel_rfl) ?_ hHeld ?_; rotate_left; focus (((intro w hSw; (try dsimp only at hSw); go_simp) <;> with_reducible rfl); done)
            (try simp only [Act.put, List.setIfInBounds_toArray, List.set_cons_zero, List.set_cons_succ])
            refine held_take (i := 4) (v := ?_) rfl (by kernel_rfl) (by kernel_rfl) (by kernel_rfl) (fun _ _ _ h => h) (by kernel_rfl) ?_ hHeld ?_; rotate_left; focus (((intro w hSw; (try dsimp only at hSw); go_simp) <;> with_reducible rfl); done)
            (try simp only [Act.put, List.setIfInBounds_toArray, List.set_cons_zero, List.set_cons_succ])
            refine held_skip (i := 5) rfl (by kernel_rfl) (by kernel_rfl) (by kernel_rfl) (fun _ _ _ h => h) (by kernel_rfl) hHeld ?_
            (try simp only [Act.put, List.setIfInBounds_toArray, List.set_cons_zero, List.set_cons_succ])
            refine held_skip (i := 6) rfl (by kernel_rfl) (by kernel_rfl) (by kernel_rfl) (fun _ _ _ h => h) (by kernel_rfl) hHeld ?_
            (try simp only [Act.put, List.setIfInBounds_toArray, List.set_cons_zero, List.set_cons_succ])
            refine held_skip (i := 7) rfl (by kernel_rfl) (by kernel_rfl) (by kernel_rfl) (fun _ _ _ h => h) (by kernel_rfl) hHeld ?_
            (try simp only [Act.put, List.setIfInBounds_toArray, List.set_cons_zero, List.set_cons_succ])
            refine held_skip (i := 8) rfl (by kernel_rfl) (by kernel_rfl) (by kernel_rfl) (fun _ _ _ h => h) (by kernel_rfl) hHeld ?_
            (try simp only [Act.put, List.setIfInBounds_toArray, List.set_cons_zero, List.set_cons_succ])
            refine held_skip (i := 9) rfl (by kernel_rfl) (by kernel_rfl) (by kernel_rfl) (fun _ _ _ h => h) (by kernel_rfl) hHeld ?_
            (try simp only [Act.put, List.setIfInBounds_toArray, List.set_cons_zero, List.set_cons_succ])
            refine held_skip (i := 10) rfl (by kernel_rfl) (by kernel_rfl) (by kernel_rfl) (fun _ _ _ h => h) (by kernel_rfl) hHeld ?_
            (try simp only [Act.put, List.setIfInBounds_toArray, List.set_cons_zero, List.set_cons_succ])
            refine held_skip (i := 11) rfl (by kernel_rfl) (by kernel_rfl) (by kernel_rfl) (fun _ _ _ h => h) (by kernel_rfl) hHeld ?_
            (try simp only [Act.put, List.setIfInBounds_toArray, List.set_cons_zero, List.set_cons_succ])
            refine held_skip (i := 12) rfl (by kernel_rfl) (by kernel_rfl) (by kernel_rfl) (fun _ _ _ h => h) (by kernel_rfl) hHeld ?_
            (try simp only [Act.put, List.setIfInBounds_toArray, List.set_cons_zero, List.set_cons_succ])
            refine held_skip (i := 13) rfl (by kernel_rfl) (by kernel_rfl) (by kernel_rfl) (fun _ _ _ h => h) (by kernel_rfl) hHeld ?_
            (try simp only [Act.put, List.setIfInBounds_toArray, List.set_cons_zero, List.set_cons_succ])
            refine held_skip (i := 14) rfl (by kernel_rfl) (by kernel_rfl) (by kernel_rfl) (fun _ _ _ h => h) (by kernel_rfl) hHeld ?_
            (try simp only [Act.put, List.setIfInBounds_toArray, List.set_cons_zero, List.set_cons_succ])
            refine held_skip (i := 15) rfl (by kernel_rfl) (by kernel_rfl) (by kernel_rfl) (fun _ _ _ h => h) (by kernel_rfl) hHeld ?_
            (try simp only [Act.put, List.setIfInBounds_toArray, List.set_cons_zero, List.set_cons_succ])
            refine held_skip (i := 16) rfl (by kernel_rfl) (by kernel_rfl) (by kernel_rfl) (fun _ _ _ h => h) (by kernel_rfl) hHeld ?_
            (try simp only [Act.put, List.setIfInBounds_toArray, List.set_cons_zero, List.set_cons_succ])
            refine held_skip (i := 17) rfl (by kernel_rfl) (by kernel_rfl) (by kernel_rfl) (fun _ _ _ h => h) (by kernel_rfl) hHeld ?_
            (try simp only [Act.put, List.setIfInBounds_toArray, List.set_cons_zero, List.set_cons_succ])
            refine held_take (i := 18) (v := ?_) rfl (by kernel_rfl) (by kernel_rfl) (by kernel_rfl) (fun _ _ _ h => h) (by kernel_rfl) ?_ hHeld ?_; rotate_left; focus (((intro w hSw; (try dsimp only at hSw); go_simp) <;> with_reducible rfl); done)
            (try simp only [Act.put, List.setIfInBounds_toArray, List.set_cons_zero, List.set_cons_succ])
            refine wpAnyH_done (by kernel_rfl) ?_ _
            go_wp2
            go_ret
            exact ⟨by rw [← HRES.out, BAD0.out (Bool.eq_false_iff.2 hnm)]; rfl, BW.out.trans ((below_undrew hb1).mono (by have := hbl.size; simp; omega))⟩
    · obtain rfl : k = vs.length := by omega
      go_wp2
      go_ret
      refine ⟨?_, hbl⟩
      have hok : namesOk ns = true := by
        rw [namesOk, List.all_eq_true]
        intro i hi
        exact HA.out i (by simp at hi; omega)
      rw [← HRES.out, hok]; rfl
end Go.Proofs.Ythanmakakcmkeaa
