/- What checks is good; value.Order, digest.order. -/
import Derived.Test.YthanmakakcmkeaaCompare3
namespace Go.Proofs.Ythanmakakcmkeaa
open Go.RowKit

theorem own_rec {c : ByteArray} {r : Int} {ns : List ByteArray} {l : List V} {n deep : Int} (h : ownE (.recd c r ns l) n deep = 0) : 0 ≤ r ∧ r ≤ 1000 := by
  unfold ownE at h
  split at h
  · simp [ownX] at h
  · simp only [ownS] at h
    split at h
    · split at h
      · cases h
      · omega
    · cases h

mutual
theorem part_good : ∀ (x : V) (deep n d : Int), (partV x deep n d).2.2 = 0 → goodV x := by
  intro x deep n d h
  cases x with
  | list l =>
    simp only [partV] at h
    split at h
    · simp only [goodV]; exact parts_good l _ _ _ h
    · rename_i h1; exact absurd h h1
  | dict ns l =>
    simp only [partV] at h
    split at h
    · simp only [goodV]; exact parts_good l _ _ _ h
    · rename_i h1; exact absurd h h1
  | recd c r ns l =>
    simp only [partV] at h
    split at h
    · rename_i h1
      simp only [goodV]; exact ⟨own_rec h1, parts_good l _ _ _ h⟩
    · rename_i h1; exact absurd h h1
  | nothing =>
    simp [partV, own_nothing rfl] at h
  | alien =>
    simp [partV, own_alien rfl] at h
  | nil => simp [goodV]
  | bool b => simp [goodV]
  | int b => simp [goodV]
  | float b => simp [goodV]
  | text b => simp [goodV]
  | bytes b => simp [goodV]
  | ref b => simp [goodV]
theorem parts_good : ∀ (xs : List V) (deep n d : Int), (partsV xs deep n d).2.2 = 0 → goodsV xs := by
  intro xs deep n d h
  cases xs with
  | nil => simp [goodsV]
  | cons x xs =>
    simp only [partsV] at h
    split at h
    · rename_i h1
      simp only [goodsV]
      exact ⟨part_good x _ _ _ h1, parts_good xs _ _ _ h⟩
    · rename_i h1; exact absurd h h1
end

theorem check_good {x : V} (h : (checkV x).2 = 0) : goodV x := by
  unfold checkV at h
  split at h
  · rename_i h1; exact part_good x _ _ _ h1
  · rename_i h1; exact absurd h h1
/-- where nothing is wrong the number is 0 too -/
theorem check_zero {x : V} (h : (checkV x).2 = 0) : checkV x = (0, 0) := by
  unfold checkV at h ⊢
  split
  · rfl
  · rename_i h1; rw [if_neg h1] at h; exact absurd h h1

/-- what value.Order tells -/
def orderE (x y : V) : Int × Int := if (checkV x).2 = 0 then if (checkV y).2 = 0 then (cmpV x y, 0) else (0, (checkV y).2) else (0, (checkV x).2)

set_option maxRecDepth 20000 in
theorem vOrder_any (x y : V) (v u : Value) (S T : List Nat) (w : World) (hx : VAt w x v S) (hy : VAt w y u T) : Calls Try.prog 50 #[v, u] w (Checked (orderE x y) w) := by
  have hc1 := check_any x v S w hx
  have hc2 : ∀ w', Below w.heap.size w w' → Calls Try.prog 49 #[u] w' (Checked (checkV y) w') := fun w' hb => check_any y u T w' (hy.below hb)
  have hc3 : (checkV x).2 = 0 → (checkV y).2 = 0 → ∀ w', Below w.heap.size w w' → Calls Try.prog 69 #[v, u] w' (Gives (cmpV x y) w') := fun h1 h2 w' hb =>
    order x y v u S T w' (hx.below hb) (hy.below hb) (check_good h1) (check_good h2)
  unfold orderE
  generalize cmpV x y = z at hc3 ⊢
  generalize checkV x = p at hc1 hc3 ⊢
  generalize checkV y = q at hc2 hc3 ⊢
  obtain ⟨p1, p2⟩ := p
  obtain ⟨q1, q2⟩ := q
  have C1 : Hid (∀ t, t = v → Calls Try.prog 49 #[t] w (Checked (p1, p2) w)) := Lib.hid fun t ht => ht ▸ hc1
  have C2 := Lib.hid hc2
  have hfx := hx.form
  have hfy := hy.form
  clear hc1 hc2 hx hy
  by_cases h1 : p2 = 0
  · subst h1
    by_cases h2 : q2 = 0
    · subst h2
      have C3 := Lib.hid (hc3 rfl rfl)
      clear hc3
      simp only [if_true]
      rcases hfx with rfl | ⟨T1, v, rfl⟩ <;> rcases hfy with rfl | ⟨T2, u, rfl⟩
      all_goals
        go_enter Try.func50, Try.ntmps50
        go_wp2_with (first | (go_at_call 49; refine (C1.out _ ?_).mono ?_; exact rfl; rintro e w1 ⟨rfl, hb1⟩; have C1 := True.intro) | (go_at_call 49; refine (C2.out _ hb1).mono ?_; rintro e w2 ⟨rfl, hb2⟩) | (go_at_call 69; refine (C3.out _ (hb1.trans (hb2.mono hb1.size))).mono ?_; rintro e w3 ⟨rfl, hb3⟩))
        go_ret2
        exact ⟨rfl, hb1.trans ((hb2.trans (hb3.mono hb2.size)).mono hb1.size)⟩
    · have hb0 : (q2 != 0) = true := by simpa using h2
      simp only [if_true]
      rw [if_neg h2]
      rcases hfx with rfl | ⟨T1, v, rfl⟩ <;> rcases hfy with rfl | ⟨T2, u, rfl⟩
      all_goals
        go_enter Try.func50, Try.ntmps50
        go_wp2_with (first | (go_at_call 49; refine (C1.out _ ?_).mono ?_; exact rfl; rintro e w1 ⟨rfl, hb1⟩; have C1 := True.intro) | (go_at_call 49; refine (C2.out _ hb1).mono ?_; rintro e w2 ⟨rfl, hb2⟩))
        go_ret2
        exact ⟨rfl, hb1.trans (hb2.mono hb1.size)⟩
  · have hb0 : (p2 != 0) = true := by simpa using h1
    rw [if_neg h1]
    rcases hfx with rfl | ⟨T1, v, rfl⟩ <;> rcases hfy with rfl | ⟨T2, u, rfl⟩
    all_goals
      go_enter Try.func50, Try.ntmps50
      go_wp2_with (first | (go_at_call 49; refine (C1.out _ ?_).mono ?_; exact rfl; rintro e w1 ⟨rfl, hb1⟩))
      go_ret2
      exact ⟨rfl, hb1⟩

/-- the order that digest takes -/
def ordD (x y : V) : Int := (orderE x y).1
theorem dorder_any (x y : V) (v u : Value) (S T : List Nat) (w : World) (hx : VAt w x v S) (hy : VAt w y u T) : Calls Try.prog 33 #[v, u] w (Gives (ordD x y) w) := by
  have hc := vOrder_any x y v u S T w hx hy
  unfold ordD
  generalize orderE x y = p at hc ⊢
  obtain ⟨p1, p2⟩ := p
  have HC := Lib.hid hc
  have hfx := hx.form
  have hfy := hy.form
  clear hc hx hy
  rcases hfx with rfl | ⟨T1, v, rfl⟩ <;> rcases hfy with rfl | ⟨T2, u, rfl⟩
  all_goals
    go_enter Try.func33, Try.ntmps33
    go_wp2_with (first | (go_at_call 50; refine HC.out.mono ?_; rintro e w1 ⟨rfl, hb1⟩))
    go_ret
    exact ⟨rfl, hb1⟩

theorem dGroup1_any (x y : V) (v u : Value) (n : Int) (S T : List Nat) (w : World) (hx : VAt w x v S) (hy : VAt w y u T) : Calls Try.prog 32 #[.agg #[v, .int .i64 n], u] w (Gives (ordD x y) w) := by
  have hbl : Below w.heap.size w (w.alloc (.cells #[v, .int .i64 n] 41)) := (Below.refl _ _).alloc (Nat.le_refl _) _
  have hc := dorder_any x y v u S T _ (hx.below hbl) (hy.below hbl)
  generalize ordD x y = p at hc ⊢
  have HC := Lib.hid hc
  have HBL := Lib.hid hbl
  have hfx := hx.form
  have hfy := hy.form
  clear hc hx hy hbl
  rcases hfx with rfl | ⟨T1, v, rfl⟩ <;> rcases hfy with rfl | ⟨T2, u, rfl⟩
  all_goals
    go_enter Try.func32, Try.ntmps32
    go_wp2_with (first | (go_at_call 33; refine HC.out.mono ?_; rintro e w1 ⟨rfl, hb1⟩))
    go_ret
    exact ⟨rfl, HBL.out.trans (hb1.mono HBL.out.size)⟩
end Go.Proofs.Ythanmakakcmkeaa
