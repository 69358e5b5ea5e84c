/- Values put together, in plain Lean; a list of values with one put in. -/
import Derived.Test.YthanmakakcmkeaaIns
namespace Go.Proofs.Ythanmakakcmkeaa
open Go.RowKit

section
variable {α : Type} (c : α → α → Int)
/-- one more put to those of its kind -/
def insK : List (α × Int) → α → List (α × Int)
  | [], y => [(y, 1)]
  | (x, n) :: R, y => if c x y < 0 then (x, n) :: insK R y else if c x y = 0 then (x, n + 1) :: R else (y, 1) :: (x, n) :: R
def groupK (l : List α) : List (α × Int) := l.foldl (insK c) []
/-- how many are ahead -/
def placeK : List (α × Int) → α → Nat
  | [], _ => 0
  | (x, _) :: R, y => if c x y < 0 then placeK R y + 1 else 0
theorem placeK_le : ∀ (R : List (α × Int)) (y : α), placeK c R y ≤ R.length
  | [], _ => Nat.le_refl _
  | (x, n) :: R, y => by
    simp only [placeK]
    split
    · have := placeK_le R y; simp; omega
    · omega
theorem placeK_lo : ∀ (R : List (α × Int)) (y : α) (k : Nat) (z : α × Int), k < placeK c R y → R[k]? = some z → c z.1 y < 0
  | [], _, k, z, h, _ => by simp [placeK] at h
  | (x, n) :: R, y, k, z, h, hz => by
    simp only [placeK] at h
    split at h
    · rename_i h1
      cases k with
      | zero => simp at hz; subst hz; exact h1
      | succ k => exact placeK_lo R y k z (by omega) (by simpa using hz)
    · omega
theorem placeK_at : ∀ (R : List (α × Int)) (y : α) (z : α × Int), R[placeK c R y]? = some z → 0 ≤ c z.1 y
  | [], _, z, h => by simp [placeK] at h
  | (x, n) :: R, y, z, h => by
    simp only [placeK] at h
    split at h
    · exact placeK_at R y z (by simpa using h)
    · rename_i h1
      simp at h; subst h; show 0 ≤ c x y; omega
theorem insK_eq : ∀ (R : List (α × Int)) (y : α), insK c R y = match R[placeK c R y]? with
    | some z => if c z.1 y = 0 then R.set (placeK c R y) (z.1, z.2 + 1) else R.take (placeK c R y) ++ (y, 1) :: R.drop (placeK c R y)
    | none => R.take (placeK c R y) ++ (y, 1) :: R.drop (placeK c R y)
  | [], y => by simp [insK, placeK]
  | (x, n) :: R, y => by
    simp only [insK, placeK]
    by_cases h1 : c x y < 0
    · rw [if_pos h1, if_pos h1, insK_eq R y]
      simp only [List.getElem?_cons_succ, List.take_succ_cons, List.drop_succ_cons, List.set_cons_succ, List.cons_append]
      cases h : R[placeK c R y]? with
      | none => rfl
      | some z => simp only []; split <;> rfl
    · rw [if_neg h1, if_neg h1]
      simp
theorem insK_sum : ∀ (R : List (α × Int)) (y : α), ((insK c R y).map (·.2)).sum = (R.map (·.2)).sum + 1
  | [], y => by simp [insK]
  | (x, n) :: R, y => by
    simp only [insK]
    split
    · simp [insK_sum R y]; omega
    · split
      · simp; omega
      · simp; omega
theorem insK_pos : ∀ (R : List (α × Int)) (y : α), (∀ z ∈ R, 1 ≤ z.2) → ∀ z ∈ insK c R y, 1 ≤ z.2
  | [], y, _, z, hz => by simp [insK] at hz; subst hz; exact Int.le_refl _
  | (x, n) :: R, y, h, z, hz => by
    have h0 := h (x, n) (by simp)
    simp only at h0
    simp only [insK] at hz
    split at hz
    · rcases List.mem_cons.1 hz with rfl | hz
      · exact h0
      · exact insK_pos R y (fun z hz => h z (by simp [hz])) z hz
    · split at hz
      · rcases List.mem_cons.1 hz with rfl | hz
        · show 1 ≤ n + 1; omega
        · exact h z (by simp [hz])
      · rcases List.mem_cons.1 hz with rfl | hz
        · exact Int.le_refl _
        · exact h z hz
theorem insK_mem : ∀ (R : List (α × Int)) (y : α) (z : α × Int), z ∈ insK c R y → z.1 = y ∨ ∃ n, (z.1, n) ∈ R
  | [], y, z, h => by simp [insK] at h; subst h; exact .inl rfl
  | (x, n) :: R, y, z, h => by
    simp only [insK] at h
    split at h
    · rcases List.mem_cons.1 h with rfl | h
      · exact .inr ⟨n, by simp⟩
      · rcases insK_mem R y z h with h | ⟨m, h⟩
        · exact .inl h
        · exact .inr ⟨m, by simp [h]⟩
    · split at h
      · rcases List.mem_cons.1 h with rfl | h
        · exact .inr ⟨n, by simp⟩
        · exact .inr ⟨z.2, by simp [h]⟩
      · rcases List.mem_cons.1 h with rfl | h
        · exact .inl rfl
        · exact .inr ⟨z.2, h⟩
theorem insK_sorted (ht : ∀ x y z, c x y < 0 → c y z < 0 → c x z < 0) (ha : ∀ x y, c y x = - c x y) (hz : ∀ x y z, c x y = 0 → c x z = c y z) : ∀ (R : List (α × Int)) (y : α), R.Pairwise (fun a b => c a.1 b.1 < 0) → (insK c R y).Pairwise (fun a b => c a.1 b.1 < 0)
  | [], y, _ => by simp [insK]
  | (x, n) :: R, y, h => by
    obtain ⟨h1, h2⟩ := List.pairwise_cons.1 h
    simp only [insK]
    split
    · rename_i hlt
      refine List.pairwise_cons.2 ⟨fun z hzm => ?_, insK_sorted ht ha hz R y h2⟩
      rcases insK_mem c R y z hzm with e | ⟨m, e⟩
      · rw [e]; exact hlt
      · exact h1 (z.1, m) e
    · split
      · exact List.pairwise_cons.2 ⟨fun z hzm => h1 z hzm, h2⟩
      · rename_i hge hne
        have hyx : c y x < 0 := by rw [ha]; omega
        refine List.pairwise_cons.2 ⟨fun z hzm => ?_, h⟩
        rcases List.mem_cons.1 hzm with rfl | hzm
        · exact hyx
        · exact ht _ _ _ hyx (h1 z hzm)
theorem placeK_hi (ht : ∀ x y z, c x y < 0 → c y z < 0 → c x z < 0) : ∀ (R : List (α × Int)) (y : α), R.Pairwise (fun a b => c a.1 b.1 < 0) → ∀ (k : Nat) (z : α × Int), placeK c R y ≤ k → R[k]? = some z → 0 ≤ c z.1 y
  | [], y, _, k, z, _, h => by simp at h
  | (x, n) :: R, y, h, k, z, hk, hz => by
    obtain ⟨h1, h2⟩ := List.pairwise_cons.1 h
    simp only [placeK] at hk
    split at hk
    · cases k with
      | zero => omega
      | succ k => exact placeK_hi ht R y h2 k z (by omega) (by simpa using hz)
    · rename_i hge
      cases k with
      | zero => simp at hz; subst hz; show 0 ≤ c x y; omega
      | succ k =>
        have hzm : z ∈ R := List.mem_of_getElem? (by simpa using hz)
        rcases Int.lt_or_le (c z.1 y) 0 with h3 | h3
        · exact absurd (ht _ _ _ (h1 z hzm) h3) hge
        · exact h3
theorem groupK_snoc (l : List α) (y : α) : groupK c (l ++ [y]) = insK c (groupK c l) y := by simp [groupK]
theorem groupK_sorted (ht : ∀ x y z, c x y < 0 → c y z < 0 → c x z < 0) (ha : ∀ x y, c y x = - c x y) (hz : ∀ x y z, c x y = 0 → c x z = c y z) (l : List α) : (groupK c l).Pairwise (fun a b => c a.1 b.1 < 0) := by
  suffices h : ∀ (l : List α) (R : List (α × Int)), R.Pairwise (fun a b => c a.1 b.1 < 0) → (l.foldl (insK c) R).Pairwise (fun a b => c a.1 b.1 < 0) from h l [] List.Pairwise.nil
  intro l
  induction l with
  | nil => intro R h; exact h
  | cons y l ih => intro R h; exact ih _ (insK_sorted c ht ha hz R y h)
theorem groupK_sum (l : List α) : ((groupK c l).map (·.2)).sum = l.length := by
  suffices h : ∀ (l : List α) (R : List (α × Int)), ((l.foldl (insK c) R).map (·.2)).sum = (R.map (·.2)).sum + l.length by simpa [groupK] using h l []
  intro l
  induction l with
  | nil => intro R; simp
  | cons y l ih => intro R; simp only [List.foldl_cons]; rw [ih, insK_sum]; simp; omega
theorem groupK_pos (l : List α) : ∀ z ∈ groupK c l, 1 ≤ z.2 := by
  suffices h : ∀ (l : List α) (R : List (α × Int)), (∀ z ∈ R, 1 ≤ z.2) → ∀ z ∈ l.foldl (insK c) R, 1 ≤ z.2 from h l [] (by simp)
  intro l
  induction l with
  | nil => intro R h; exact h
  | cons y l ih => intro R h; exact ih _ (insK_pos c R y h)
theorem groupK_mem (l : List α) : ∀ z ∈ groupK c l, z.1 ∈ l := by
  suffices h : ∀ (l : List α) (R : List (α × Int)), ∀ z ∈ l.foldl (insK c) R, z.1 ∈ l ∨ ∃ n, (z.1, n) ∈ R by
    intro z hz
    rcases h l [] z hz with h | ⟨n, h⟩
    · exact h
    · cases h
  intro l
  induction l with
  | nil => intro R z h; exact .inr ⟨z.2, h⟩
  | cons y l ih =>
    intro R z h
    rcases ih _ z h with h | ⟨n, h⟩
    · exact .inl (by simp [h])
    · rcases insK_mem c R y _ h with h | h
      · exact .inl (by rw [show z.1 = y from h]; simp)
      · exact .inr h
end
theorem insK_map {α β : Type} (f : α → β) (c : α → α → Int) (d : β → β → Int) (h : ∀ x y, c x y = d (f x) (f y)) : ∀ (R : List (α × Int)) (y : α), (insK c R y).map (fun z => (f z.1, z.2)) = insK d (R.map (fun z => (f z.1, z.2))) (f y)
  | [], y => by simp [insK]
  | (x, n) :: R, y => by
    simp only [insK, List.map_cons, ← h]
    split
    · simp [insK_map f c d h R y]
    · split <;> simp
theorem groupK_map {α β : Type} (f : α → β) (c : α → α → Int) (d : β → β → Int) (h : ∀ x y, c x y = d (f x) (f y)) (l : List α) : (groupK c l).map (fun z => (f z.1, z.2)) = groupK d (l.map f) := by
  suffices hh : ∀ (l : List α) (R : List (α × Int)), (l.foldl (insK c) R).map (fun z => (f z.1, z.2)) = (l.map f).foldl (insK d) (R.map (fun z => (f z.1, z.2))) by simpa [groupK] using hh l []
  intro l
  induction l with
  | nil => intro R; rfl
  | cons y l ih => intro R; simp only [List.foldl_cons, List.map_cons]; rw [ih, insK_map f c d h]

/-- the first that is wrong, and why -/
def errG : List V → Int
  | [] => 0
  | x :: xs => if (checkV x).2 = 0 then errG xs else (checkV x).2
theorem errG_good : ∀ {l : List V}, errG l = 0 → ∀ x ∈ l, (checkV x).2 = 0
  | x :: xs, h, y, hy => by
    simp only [errG] at h
    split at h
    · rename_i h1
      rcases List.mem_cons.1 hy with rfl | hy
      · exact h1
      · exact errG_good h y hy
    · rename_i h1; exact absurd h h1

/-- a count is two cells -/
def cntCells : List Value → List Int → List Value
  | v :: vs, n :: ns => v :: .int .i64 n :: cntCells vs ns
  | _, _ => []
theorem cnt_len : ∀ {vs : List Value} {ns : List Int}, vs.length = ns.length → (cntCells vs ns).length = ns.length * 2
  | [], [], _ => rfl
  | v :: vs, n :: ns, h => by simp at h; simp [cntCells, cnt_len h]; omega
  | [], _ :: _, h => by simp at h
  | _ :: _, [], h => by simp at h
theorem cnt_get : ∀ {vs : List Value} {ns : List Int} {k : Nat} {v : Value} {n : Int}, vs[k]? = some v → ns[k]? = some n → (cntCells vs ns)[k * 2]? = some v ∧ (cntCells vs ns)[k * 2 + 1]? = some (.int .i64 n)
  | u :: vs, m :: ns, 0, v, n, h1, h2 => by simp at h1 h2; subst h1 h2; simp [cntCells]
  | u :: vs, m :: ns, k + 1, v, n, h1, h2 => by
    have := cnt_get (vs := vs) (ns := ns) (k := k) (v := v) (n := n) (by simpa using h1) (by simpa using h2)
    rw [show (k + 1) * 2 = k * 2 + 2 by omega]
    simpa [cntCells] using this
  | [], _, _, _, _, h, _ => by simp at h
  | _ :: _, [], _, _, _, _, h => by simp at h
theorem cnt_take : ∀ {vs : List Value} {ns : List Int} (p : Nat), vs.length = ns.length → (cntCells vs ns).take (p * 2) = cntCells (vs.take p) (ns.take p) ∧ (cntCells vs ns).drop (p * 2) = cntCells (vs.drop p) (ns.drop p)
  | [], [], p, _ => by simp [cntCells]
  | v :: vs, n :: ns, 0, h => by simp [cntCells]
  | v :: vs, n :: ns, p + 1, h => by
    have := cnt_take (vs := vs) (ns := ns) p (by simpa using h)
    rw [show (p + 1) * 2 = p * 2 + 2 by omega]
    simpa [cntCells] using this
  | [], _ :: _, _, h => by simp at h
  | _ :: _, [], _, h => by simp at h
theorem cnt_append : ∀ {vs : List Value} {ns : List Int} (us : List Value) (ms : List Int), vs.length = ns.length → cntCells (vs ++ us) (ns ++ ms) = cntCells vs ns ++ cntCells us ms
  | [], [], us, ms, _ => by simp [cntCells]
  | v :: vs, n :: ns, us, ms, h => by simp at h; simp [cntCells, cnt_append us ms h]
  | [], _ :: _, _, _, h => by simp at h
  | _ :: _, [], _, _, h => by simp at h
theorem cnt_set : ∀ {vs : List Value} {ns : List Int} (p : Nat) (m : Int), vs.length = ns.length → (cntCells vs ns).set (p * 2 + 1) (.int .i64 m) = cntCells vs (ns.set p m)
  | [], [], p, m, _ => by simp [cntCells]
  | v :: vs, n :: ns, 0, m, h => by simp [cntCells]
  | v :: vs, n :: ns, p + 1, m, h => by
    have := cnt_set (vs := vs) (ns := ns) p m (by simpa using h)
    rw [show (p + 1) * 2 + 1 = p * 2 + 1 + 1 + 1 by omega]
    simpa [cntCells] using this
  | [], _ :: _, _, _, h => by simp at h
  | _ :: _, [], _, _, h => by simp at h
theorem cnt_one : ∀ {vs : List Value} {ns : List Int}, (∀ v ∈ vs, v.oneCell' = true) → ∀ v ∈ cntCells vs ns, v.oneCell' = true
  | v :: vs, n :: ns, h, u, hu => by
    simp only [cntCells, List.mem_cons] at hu
    rcases hu with rfl | rfl | hu
    · exact h _ (by simp)
    · rfl
    · exact cnt_one (fun v hv => h v (by simp [hv])) u hu
  | [], _, _, u, hu => by simp [cntCells] at hu
  | _ :: _, [], _, u, hu => by simp [cntCells] at hu

theorem VsAt.split {w : World} : ∀ {xs : List V} {us : List Value} {S : List Nat} (p : Nat), VsAt w xs us S → ∃ Sa Sb, S = Sa ++ Sb ∧ VsAt w (xs.take p) (us.take p) Sa ∧ VsAt w (xs.drop p) (us.drop p) Sb
  | xs, us, S, 0, h => ⟨[], S, rfl, by simp [VsAt], by simpa using h⟩
  | [], us, S, p + 1, h => by
    obtain ⟨rfl, rfl⟩ := (by simpa only [VsAt] using h)
    exact ⟨[], [], rfl, by simp [VsAt], by simp [VsAt]⟩
  | x :: xs, us, S, p + 1, h => by
    obtain ⟨v, vr, S1, S2, rfl, rfl, h1, h2⟩ := (by simpa only [VsAt] using h)
    obtain ⟨Sa, Sb, rfl, ha, hb⟩ := VsAt.split p h2
    refine ⟨S1 ++ Sa, Sb, by simp, ?_, by simpa using hb⟩
    simp only [List.take_succ_cons, VsAt]
    exact ⟨v, _, S1, Sa, rfl, rfl, h1, ha⟩
theorem VsAt.append {w : World} : ∀ {xs : List V} {us : List Value} {S : List Nat} {ys : List V} {vs : List Value} {T : List Nat}, VsAt w xs us S → VsAt w ys vs T → VsAt w (xs ++ ys) (us ++ vs) (S ++ T)
  | [], us, S, ys, vs, T, h, h' => by
    obtain ⟨rfl, rfl⟩ := (by simpa only [VsAt] using h)
    simpa using h'
  | x :: xs, us, S, ys, vs, T, h, h' => by
    obtain ⟨v, vr, S1, S2, rfl, rfl, h1, h2⟩ := (by simpa only [VsAt] using h)
    simp only [List.cons_append, VsAt]
    exact ⟨v, _, S1, S2 ++ T, rfl, by simp, h1, VsAt.append h2 h'⟩
theorem VsAt.ones {w : World} : ∀ {xs : List V} {us : List Value} {S : List Nat}, VsAt w xs us S → ∀ v ∈ us, v.oneCell' = true
  | [], us, S, h, v, hv => by obtain ⟨rfl, rfl⟩ := (by simpa only [VsAt] using h); cases hv
  | x :: xs, us, S, h, v, hv => by
    obtain ⟨u, vr, S1, S2, rfl, rfl, h1, h2⟩ := (by simpa only [VsAt] using h)
    rcases List.mem_cons.1 hv with rfl | hv
    · exact h1.one
    · exact VsAt.ones h2 v hv

/-- counts in memory of the call's own -/
structure Cnts (B : Nat) (w : World) (R : List (V × Int)) (A : Option Addr) (cap : Nat) (us : List Value) (S : List Nat) : Prop where
  row : RowN w 41 2 A cap R.length (cntCells us (R.map (·.2)))
  vals : VsAt w (R.map (·.1)) us S
  nodup : (ownL A ++ S).Nodup
  new : ∀ b ∈ ownL A ++ S, B ≤ b
theorem Cnts.nil (B : Nat) (w : World) : Cnts B w [] none 0 [] [] := ⟨.inl ⟨rfl, rfl, rfl, rfl⟩, by simp [VsAt], by simp [ownL], by simp [ownL]⟩
theorem Cnts.fr {B : Nat} {w w' : World} {R : List (V × Int)} {A : Option Addr} {cap : Nat} {us : List Value} {S T : List Nat} (h : Cnts B w R A cap us S) (hf : Fr T w w') (hd : ∀ b ∈ ownL A ++ S, b ∉ T) : Cnts B w' R A cap us S :=
  ⟨h.row.fr hf (fun b hb => hd b (by simp [hb])), h.vals.fr hf (fun b hb => hd b (by simp [hb])), h.nodup, h.new⟩
theorem Cnts.below {B : Nat} {w w' : World} {R : List (V × Int)} {A : Option Addr} {cap : Nat} {us : List Value} {S : List Nat} (h : Cnts B w R A cap us S) (hf : Below w.heap.size w w') : Cnts B w' R A cap us S :=
  ⟨h.row.below hf, h.vals.below hf, h.nodup, h.new⟩
theorem Cnts.len {B : Nat} {w : World} {R : List (V × Int)} {A : Option Addr} {cap : Nat} {us : List Value} {S : List Nat} (h : Cnts B w R A cap us S) : us.length = R.length := by have := VsAt.length _ h.vals; simpa using this
/-- a new one is put in -/
theorem Cnts.ins {B : Nat} {w w1 w2 : World} {R : List (V × Int)} {A : Option Addr} {cap : Nat} {us : List Value} {S : List Nat} (h : Cnts B w R A cap us S) (hB : B ≤ w.heap.size) (hb : Below w.heap.size w w1) {y : V} {v : Value} {S1 : List Nat} (hv : VAt w1 y v S1) (hn : S1.Nodup) (hS : ∀ b ∈ S1, w.heap.size ≤ b)
    {o : Obj} {p g' cap' : Nat} (hp : p ≤ R.length) (hr : Row w2 41 2 g' cap' (R.length + 1) ((cntCells us (R.map (·.2))).take (p * 2) ++ [v, .int .i64 1] ++ (cntCells us (R.map (·.2))).drop (p * 2))) (hf : Fr (ownL A) (w1.alloc o) w2) (hg : g' ∈ ownL A ∨ (w1.alloc o).heap.size ≤ g') :
    ∃ S', Cnts B w2 (R.take p ++ (y, 1) :: R.drop p) (some ⟨g', 0, none⟩) cap' (us.take p ++ v :: us.drop p) S' := by
  have hlen := h.len
  obtain ⟨Sa, Sb, rfl, ha, hbb⟩ := h.vals.split p
  have hs1 := hb.size
  have hfs := hf.size
  simp only [World.size_alloc] at hg hfs
  have hnd := List.nodup_append.1 h.nodup
  have hlo : ∀ b ∈ Sa ++ Sb, b < w.heap.size := VsAt.lt _ h.vals
  have hAl : ∀ b ∈ ownL A, b < w.heap.size := h.row.lt
  have hS1l : ∀ b ∈ S1, b < w1.heap.size := VAt.lt y hv
  have hba : Below w1.heap.size w1 (w1.alloc o) := (Below.refl _ _).alloc (Nat.le_refl _) o
  have hv2 : VAt w2 y v S1 := (hv.below hba).fr hf (fun b hm hA => by have := hS b hm; have := hAl b hA; omega)
  have ha2 : VsAt w2 (R.take p |>.map (·.1)) (us.take p) Sa := by
    rw [List.map_take]
    exact ((ha.below hb).below hba).fr hf (fun b hm hA => hnd.2.2 b hA b (by simp [hm]) rfl)
  have hb2 : VsAt w2 (R.drop p |>.map (·.1)) (us.drop p) Sb := by
    rw [List.map_drop]
    exact ((hbb.below hb).below hba).fr hf (fun b hm hA => hnd.2.2 b hA b (by simp [hm]) rfl)
  have hvc : VsAt w2 ((y :: (R.drop p |>.map (·.1)))) (v :: us.drop p) (S1 ++ Sb) := by
    simp only [VsAt]
    exact ⟨v, _, S1, Sb, rfl, rfl, hv2, hb2⟩
  refine ⟨Sa ++ (S1 ++ Sb), ?_, ?_, ?_, ?_⟩
  · have e : (R.take p ++ (y, 1) :: R.drop p).length = R.length + 1 := by simp; omega
    rw [e]
    have hct := cnt_take (vs := us) (ns := R.map (·.2)) p (by simpa using hlen)
    rw [hct.1, hct.2] at hr
    rw [List.map_append, List.map_cons, List.map_take, List.map_drop, cnt_append _ _ (by simp [hlen])]
    simpa [cntCells] using hr.toN
  · rw [List.map_append, List.map_cons]; exact ha2.append hvc
  · have hnS := List.nodup_append.1 hnd.2.1
    have hg1 : g' ∉ Sa ++ (S1 ++ Sb) := by
      intro hm
      rcases hg with hg | hg
      · rcases List.mem_append.1 hm with hm | hm
        · exact hnd.2.2 _ hg _ (by simp [hm]) rfl
        · rcases List.mem_append.1 hm with hm | hm
          · have := hS _ hm; have := hAl _ hg; omega
          · exact hnd.2.2 _ hg _ (by simp [hm]) rfl
      · rcases List.mem_append.1 hm with hm | hm
        · have := hlo _ (show g' ∈ Sa ++ Sb by simp [hm]); omega
        · rcases List.mem_append.1 hm with hm | hm
          · have := hS1l _ hm; omega
          · have := hlo _ (show g' ∈ Sa ++ Sb by simp [hm]); omega
    simp only [ownL, List.singleton_append]
    refine List.nodup_cons.2 ⟨hg1, List.nodup_append.2 ⟨hnS.1, List.nodup_append.2 ⟨hn, hnS.2.1, ?_⟩, ?_⟩⟩
    · rintro a ha1 b hb1 rfl
      have := hS a ha1; have := hlo a (by simp [hb1]); omega
    · rintro a ha1 b hb1 rfl
      rcases List.mem_append.1 hb1 with hb1 | hb1
      · have := hS a hb1; have := hlo a (by simp [ha1]); omega
      · exact hnS.2.2 a ha1 a hb1 rfl
  · intro b hm
    simp only [ownL, List.singleton_append] at hm
    rcases List.mem_cons.1 hm with rfl | hm
    · rcases hg with hg | hg
      · exact h.new _ (by simp [hg])
      · omega
    · rcases List.mem_append.1 hm with hm | hm
      · exact h.new _ (by simp [hm])
      · rcases List.mem_append.1 hm with hm | hm
        · have := hS _ hm; omega
        · exact h.new _ (by simp [hm])
end Go.Proofs.Ythanmakakcmkeaa
