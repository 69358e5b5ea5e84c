/- tenonref01.seen.part, Check, whole. -/
import Derived.Test.YthanmakakcmkeaaRpart
namespace Go.Proofs.Ythanmakakcmkeaa
open Go.RowKit

theorem kids_build (t : Tm) (deep n d : Int) : partV (build t) deep n d = if ownE (build t) n deep = 0 then partsV (builds (kidsT t)) (deep + 1) (n + 1) (if d < deep then deep else d) else (n, d, ownE (build t) n deep) := by
  obtain ⟨k, b, i, f, s, bs, r, l, ns, vs, c, v⟩ := t
  have leaf : ∀ (x : V), (∀ l, x ≠ .list l) → (∀ a b, x ≠ .dict a b) → (∀ a b c d, x ≠ .recd a b c d) → partV x deep n d = if ownE x n deep = 0 then (n + 1, (if d < deep then deep else d), 0) else (n, d, ownE x n deep) := by
    intro x h1 h2 h3
    cases x <;> first | exact absurd rfl (h1 _) | exact absurd rfl (h2 _ _) | exact absurd rfl (h3 _ _ _ _) | simp only [partV]
  by_cases k8 : k = 8
  · subst k8; simp [build, kidsT, partV]
  by_cases k9 : k = 9
  · subst k9; simp [build, kidsT, partV]
  by_cases k10 : k = 10
  · subst k10; simp [build, kidsT, partV]
  have hk : kidsT (.mk k b i f s bs r l ns vs c v) = [] := by simp [kidsT, k8, k9, k10]
  rw [hk, leaf]
  · simp [builds, partsV]
  all_goals
    intros
    simp only [build, if_neg k8, if_neg k9, if_neg k10]
    repeat' split
    all_goals simp

theorem kids_mem {t u : Tm} (h : u ∈ kidsT t) : SizeOf.sizeOf u < SizeOf.sizeOf t := by
  obtain ⟨k, b, i, f, s, bs, r, l, ns, vs, c, v⟩ := t
  simp only [kidsT] at h
  split at h
  · have := List.sizeOf_lt_of_mem h; simp; omega
  · split at h
    · have := List.sizeOf_lt_of_mem h; simp; omega
    · cases h
theorem TmAt.kidlen {w : World} {B : Nat} {t : Tm} {cs : List Value} (h : TmAt w B t cs) : (kidsT t).length ≤ 1048576 := by
  obtain ⟨k, b, i, f, s, bs, r, l, ns, vs, c, v⟩ := t
  simp only [TmAt] at h
  obtain ⟨A5, c5, A7, c7, A8, c8, e, h5, _, hns, _, ⟨b1, b2, b3, b4, b5, b6⟩, _⟩ := h
  simp only [kidsT]
  split
  · exact b3
  · split
    · exact b4
    · simp

theorem rpart_any : ∀ (k : Nat) (t : Tm), SizeOf.sizeOf t < k → SeenAt t := by
  intro k
  induction k with
  | zero => intro t ht; omega
  | succ k ihk =>
    intro t ht cs w B n d a deep hB h h0 h1 hd
    have ih : ∀ u ∈ kidsT t, SeenAt u := fun u hu => ihk u (by have := kids_mem hu; omega)
    have hkl := h.kidlen
    obtain ⟨r0, r1, r2, r3, r4, r5, r6, r7, r8, r9, r10, rfl⟩ := list11 (TmAt.len t h)
    rw [kids_build]
    by_cases hy : ownE (build t) n deep = 0
    · rw [if_pos hy]
      by_cases hc : d < deep
      · exact rpart_deeper t r0 r1 r2 r3 r4 r5 r6 r7 r8 r9 r10 w B n d a deep hB h hy hc h0 hd ih hkl _ (by rw [if_pos hc])
      · exact rpart_flat t r0 r1 r2 r3 r4 r5 r6 r7 r8 r9 r10 w B n d a deep hB h hy (by omega) h0 hd ih hkl _ (by rw [if_neg hc])
    · rw [if_neg hy]
      refine (rpart_bad t r0 r1 r2 r3 r4 r5 r6 r7 r8 r9 r10 w B n d a deep _ hB h rfl hy).mono ?_
      rintro e w' ⟨he, hb⟩
      exact ⟨by rw [he]; simp [seenOf, hy], hb⟩

theorem rpart (t : Tm) : SeenAt t := rpart_any _ t (Nat.lt_succ_self _)

theorem rcheck_any (t : Tm) (cs : List Value) (w : World) (B : Nat) (hB : B ≤ w.heap.size) (h : TmAt w B t cs) : Calls Try.prog 36 #[.agg cs.toArray] w (Checked (checkV (build t)) w) := by
  have HAL := Lib.hid ((Below.refl w.heap.size w).alloc (Nat.le_refl _) (.cells cs.toArray 31))
  have hpart := rpart t cs _ B 0 0 0 1 (Nat.le_trans hB HAL.out.size) (h.below HAL.out hB) (by omega) (by omega) (by omega)
  obtain ⟨r0, r1, r2, r3, r4, r5, r6, r7, r8, r9, r10, rfl⟩ := list11 (TmAt.len t h)
  unfold checkV
  generalize partV (build t) 1 0 0 = r at hpart ⊢
  obtain ⟨rn, rd, ry⟩ := r
  dsimp only at hpart HAL ⊢
  have hpart2 : Calls Try.prog 54 #[.agg #[.int .i64 0, .int .i64 0, .int .i64 0, .int .i64 0], .agg #[r0, r1, r2, r3, r4, r5, r6, r7, r8, r9, r10], .int .i64 1] (w.alloc (.cells #[r0, r1, r2, r3, r4, r5, r6, r7, r8, r9, r10] 31)) (fun e w' => e = .returned (.agg #[.int .i64 rn, .int .i64 rd, .int .i64 (if ry = 0 then 0 else rn), .int .i64 ry]) ∧ Below (w.alloc (.cells #[r0, r1, r2, r3, r4, r5, r6, r7, r8, r9, r10] 31)).heap.size (w.alloc (.cells #[r0, r1, r2, r3, r4, r5, r6, r7, r8, r9, r10] 31)) w') := hpart
  have hres : (if ry = 0 then ((0 : Int), (0 : Int)) else (rn, ry)) = ((if ry = 0 then 0 else rn), ry) := by split <;> simp_all
  rw [hres]
  generalize (if ry = 0 then 0 else rn) = q at hpart2 ⊢
  have HPART := Lib.hid hpart2
  clear hpart hpart2 h hres
  go_enter Try.func36, Try.ntmps36
  go_wp2_with (first | (go_at_call 54; refine HPART.out.mono ?_; rintro e w2 ⟨rfl, hb2⟩))
  go_region
  go_wp2
  go_ret2
  have hbb := HAL.out.trans (hb2.mono (by simp))
  exact ⟨rfl, (hbb.alloc hbb.size _).drew⟩
end Go.Proofs.Ythanmakakcmkeaa
