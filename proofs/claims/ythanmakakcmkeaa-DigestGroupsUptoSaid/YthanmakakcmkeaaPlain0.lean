/- What Plain makes of a value, in plain Lean; a value that is as another term's is the same as that term. -/
import Derived.Test.YthanmakakcmkeaaCode
import Derived.Test.YthanmakakcmkeaaSame
namespace Go.Proofs.Ythanmakakcmkeaa

def zt (k : Int) : Tm := .mk k false 0 0 ByteArray.empty [] 0 [] [] [] ByteArray.empty 0
mutual
def plainT : V → Int → Tm
  | .nil, d => if 400 < d then zt 0 else zt 1
  | .bool b, d => if 400 < d then zt 0 else .mk 2 b 0 0 ByteArray.empty [] 0 [] [] [] ByteArray.empty 0
  | .int n, d => if 400 < d then zt 0 else .mk 3 false n 0 ByteArray.empty [] 0 [] [] [] ByteArray.empty 0
  | .float f, d => if 400 < d then zt 0 else .mk 4 false 0 f ByteArray.empty [] 0 [] [] [] ByteArray.empty 0
  | .text s, d => if 400 < d then zt 0 else .mk 5 false 0 0 s [] 0 [] [] [] ByteArray.empty 0
  | .bytes l, d => if 400 < d then zt 0 else .mk 6 false 0 0 ByteArray.empty l 0 [] [] [] ByteArray.empty 0
  | .ref n, d => if 400 < d then zt 0 else .mk 7 false 0 0 ByteArray.empty [] n [] [] [] ByteArray.empty 0
  | .list l, d => if 400 < d then zt 0 else .mk 8 false 0 0 ByteArray.empty [] 0 (plainTs l (d + 1)) [] [] ByteArray.empty 0
  | .dict ns l, d => if 400 < d then zt 0 else .mk 9 false 0 0 ByteArray.empty [] 0 [] ns (plainTs l (d + 1)) ByteArray.empty 0
  | .recd c r ns l, d => if 400 < d then zt 0 else .mk 10 false 0 0 ByteArray.empty [] 0 [] ns (plainTs l (d + 1)) c r
  | .nothing, d => if 400 < d then zt 0 else zt 11
  | .alien, _ => zt 0
def plainTs : List V → Int → List Tm
  | [], _ => []
  | x :: xs, d => plainT x d :: plainTs xs d
end

theorem plainTs_map : ∀ (xs : List V) (d : Int), plainTs xs d = xs.map (plainT · d)
  | [], _ => rfl
  | x :: xs, d => by simp [plainTs, plainTs_map xs d]

mutual
/-- not deeper than Plain goes -/
def okD : V → Int → Prop
  | .list l, d => d ≤ 400 ∧ oksD l (d + 1)
  | .dict _ l, d => d ≤ 400 ∧ oksD l (d + 1)
  | .recd _ _ _ l, d => d ≤ 400 ∧ oksD l (d + 1)
  | _, d => d ≤ 400
def oksD : List V → Int → Prop
  | [], _ => True
  | x :: xs, d => okD x d ∧ oksD xs d
end
mutual
/-- its floats are floats -/
def flV : V → Prop
  | .float f => f < 18446744073709551616
  | .list l => flsV l
  | .dict _ l => flsV l
  | .recd _ _ _ l => flsV l
  | _ => True
def flsV : List V → Prop
  | [] => True
  | x :: xs => flV x ∧ flsV xs
end

theorem sgn_zero {a b : Int} (h : sgn a b = 0) : a = b := by
  unfold sgn at h
  split at h
  · cases h
  · split at h
    · cases h
    · omega
theorem tr_inj {a b : Bool} (h : tr a = tr b) : a = b := by cases a <;> cases b <;> simp [tr] at h ⊢
theorem placeF_inj {a b : Nat} (ha : a < 18446744073709551616) (hb : b < 18446744073709551616) (h : placeF a = placeF b) : a = b := by
  unfold placeF at h
  split at h <;> split at h <;> omega
theorem cmpT_zero {a b : ByteArray} (h : cmpT a b = 0) : (a.toList == b.toList) = true := by
  rw [cmpL_eq _ _ h]; exact beq_self_eq_true _

theorem build_kinds (k : Int) (b : Bool) (i : Int) (f : Nat) (s : ByteArray) (bs : List UInt8) (r : Int) (l : List Tm) (ns : List ByteArray) (vs : List Tm) (c : ByteArray) (v : Int) :
    (1 ≤ k ∧ k ≤ 11 ∧ kindOf (build (.mk k b i f s bs r l ns vs c v)) = k) ∨ ((k < 1 ∨ 11 < k) ∧ build (.mk k b i f s bs r l ns vs c v) = .alien) := by
  by_cases h1 : 1 ≤ k ∧ k ≤ 11
  · left
    have : k = 1 ∨ k = 2 ∨ k = 3 ∨ k = 4 ∨ k = 5 ∨ k = 6 ∨ k = 7 ∨ k = 8 ∨ k = 9 ∨ k = 10 ∨ k = 11 := by omega
    refine ⟨h1.1, h1.2, ?_⟩
    rcases this with rfl | rfl | rfl | rfl | rfl | rfl | rfl | rfl | rfl | rfl | rfl <;> simp [build, kindOf]
  · right
    refine ⟨by omega, ?_⟩
    simp only [build]
    rw [if_neg (by omega), if_neg (by omega), if_neg (by omega), if_neg (by omega), if_neg (by omega), if_neg (by omega), if_neg (by omega), if_neg (by omega), if_neg (by omega), if_neg (by omega), if_neg (by omega)]

theorem cmp_kind {x y : V} (h : cmpV x y = 0) : kindOf x = kindOf y := by
  have h1 := cmpV_zero h
  obtain ⟨r, hr⟩ := code_head x
  obtain ⟨s, hs⟩ := code_head y
  rw [hr, hs] at h1
  exact (List.cons.inj h1).1

/-- a term whose value is of a kind -/
theorem tm_kind (u : Tm) {k : Int} (hk : kindOf (build u) = k) (h0 : k ≠ 0) : ∃ b i f s bs r l ns vs c v, u = .mk k b i f s bs r l ns vs c v := by
  obtain ⟨k', b, i, f, s, bs, r, l, ns, vs, c, v⟩ := u
  rcases build_kinds k' b i f s bs r l ns vs c v with ⟨_, _, h⟩ | ⟨_, h⟩
  · rw [h] at hk
    subst hk
    exact ⟨b, i, f, s, bs, r, l, ns, vs, c, v, rfl⟩
  · rw [h] at hk
    exact absurd hk.symm h0

theorem cmpsV_len : ∀ {a b : List V}, cmpsV a b = 0 → a.length = b.length
  | [], [], _ => rfl
  | [], _ :: _, h => by simp [cmpsV] at h
  | _ :: _, [], h => by simp [cmpsV] at h
  | x :: xs, y :: ys, h => by
    rw [cmpsV_cons] at h
    have : cmpsV xs ys = 0 := by unfold thn at h; split at h; exact h; rename_i h1; exact absurd h h1
    simp [cmpsV_len this]
theorem cmpF_len : ∀ {a b : List V} {ns ms : List ByteArray}, cmpF a ns ms b = 0 → a.length = b.length
  | [], [], _, _, _ => rfl
  | [], _ :: _, _, _, h => by simp [cmpF] at h
  | _ :: _, [], _, _, h => by simp [cmpF] at h
  | x :: xs, y :: ys, ns, ms, h => by
    rw [cmpF_cons] at h
    have h2 : thn (cmpV x y) (cmpF xs ns.tail ms.tail ys) = 0 := by unfold thn at h; split at h; exact h; rename_i h1; exact absurd h h1
    have : cmpF xs ns.tail ms.tail ys = 0 := by unfold thn at h2; split at h2; exact h2; rename_i h1; exact absurd h2 h1
    simp [cmpF_len this]
theorem thn_both {a b : Int} (h : thn a b = 0) : a = 0 ∧ b = 0 := by
  unfold thn at h
  split at h
  · rename_i h1; exact ⟨h1, h⟩
  · rename_i h1; exact absurd h h1

mutual
theorem same_plain : ∀ (x : V) (u : Tm) (d : Int), okD x d → goodV x → flV x → flV (build u) → cmpV x (build u) = 0 → sameT (plainT x d) u = true := by
  intro x u d hd hg hf hu hc
  have hk := (cmp_kind hc).symm
  cases x with
  | nil => obtain ⟨b, i, f, s, bs, r, l, ns, vs, c, v, rfl⟩ := tm_kind u hk (by simp [kindOf]); simp only [okD] at hd; simp [plainT, sameT, kindOf, zt, show ¬ 400 < d by omega]
  | bool a =>
    obtain ⟨b, i, f, s, bs, r, l, ns, vs, c, v, rfl⟩ := tm_kind u hk (by simp [kindOf])
    simp only [okD] at hd
    simp [build, kindOf, cmpV] at hc
    have := tr_inj (sgn_zero hc)
    simp [plainT, sameT, kindOf, this, show ¬ 400 < d by omega]
  | int a =>
    obtain ⟨b, i, f, s, bs, r, l, ns, vs, c, v, rfl⟩ := tm_kind u hk (by simp [kindOf])
    simp only [okD] at hd
    simp [build, kindOf, cmpV] at hc
    have := sgn_zero hc
    simp [plainT, sameT, kindOf, this, show ¬ 400 < d by omega]
  | float a =>
    obtain ⟨b, i, f, s, bs, r, l, ns, vs, c, v, rfl⟩ := tm_kind u hk (by simp [kindOf])
    simp only [okD] at hd
    simp [build, kindOf, cmpV] at hc
    simp [build, kindOf, flV] at hu
    simp only [flV] at hf
    have := placeF_inj hf hu (sgn_zero hc)
    simp [plainT, sameT, kindOf, this, show ¬ 400 < d by omega]
  | text a =>
    obtain ⟨b, i, f, s, bs, r, l, ns, vs, c, v, rfl⟩ := tm_kind u hk (by simp [kindOf])
    simp only [okD] at hd
    simp [build, kindOf, cmpV] at hc
    have := cmpT_zero hc
    simp only [plainT, sameT, kindOf, if_neg (show ¬ 400 < d by omega)]
    simpa using this
  | bytes a =>
    obtain ⟨b, i, f, s, bs, r, l, ns, vs, c, v, rfl⟩ := tm_kind u hk (by simp [kindOf])
    simp only [okD] at hd
    simp [build, kindOf, cmpV] at hc
    have := cmpL_eq _ _ hc
    simp [plainT, sameT, kindOf, this, show ¬ 400 < d by omega]
  | ref a =>
    obtain ⟨b, i, f, s, bs, r, l, ns, vs, c, v, rfl⟩ := tm_kind u hk (by simp [kindOf])
    simp only [okD] at hd
    simp [build, kindOf, cmpV] at hc
    have := sgn_zero hc
    simp [plainT, sameT, kindOf, this, show ¬ 400 < d by omega]
  | list a =>
    obtain ⟨b, i, f, s, bs, r, l, ns, vs, c, v, rfl⟩ := tm_kind u hk (by simp [kindOf])
    simp only [okD] at hd
    simp [build, kindOf, cmpV] at hc
    simp [build, kindOf, flV] at hu
    simp only [flV] at hf
    simp only [goodV] at hg
    have h1 := same_plains a l (d + 1) hd.2 hg hf hu hc
    have h2 := cmpsV_len hc
    rw [builds_len] at h2
    simp [plainT, sameT, kindOf, plainTs_map, show ¬ 400 < d by omega]
    rw [plainTs_map] at h1
    exact ⟨h2, h1⟩
  | dict n a =>
    obtain ⟨b, i, f, s, bs, r, l, ns, vs, c, v, rfl⟩ := tm_kind u hk (by simp [kindOf])
    simp only [okD] at hd
    simp [build, kindOf, cmpV] at hc
    simp [build, kindOf, flV] at hu
    simp only [flV] at hf
    simp only [goodV] at hg
    have h1 := same_plainsE a n ns vs (d + 1) hd.2 hg hf hu hc
    have h2 := cmpF_len hc
    rw [builds_len] at h2
    simp [plainT, sameT, kindOf, plainTs_map, show ¬ 400 < d by omega]
    rw [plainTs_map] at h1
    exact ⟨h2, h1⟩
  | recd c0 r0 n a =>
    obtain ⟨b, i, f, s, bs, r, l, ns, vs, c, v, rfl⟩ := tm_kind u hk (by simp [kindOf])
    simp only [okD] at hd
    have hb : build (.mk (kindOf (.recd c0 r0 n a)) b i f s bs r l ns vs c v) = .recd c v ns (builds vs) := by simp [build, kindOf]
    rw [hb] at hc hu
    rw [cmpV_recd] at hc
    obtain ⟨e1, hc⟩ := thn_both hc
    obtain ⟨e2, hc⟩ := thn_both hc
    simp only [flV] at hf hu
    simp only [goodV] at hg
    have h1 := same_plainsE a n ns vs (d + 1) hd.2 hg.2 hf hu hc
    have h2 := cmpF_len hc
    rw [builds_len] at h2
    have h3 := cmpT_zero e1
    have h4 := sgn_zero e2
    simp [plainT, sameT, kindOf, plainTs_map, show ¬ 400 < d by omega]
    rw [plainTs_map] at h1
    exact ⟨by simpa using h3, h4, h2, h1⟩
  | nothing => simp only [goodV] at hg
  | alien => simp only [goodV] at hg
theorem same_plains : ∀ (xs : List V) (us : List Tm) (d : Int), oksD xs d → goodsV xs → flsV xs → flsV (builds us) → cmpsV xs (builds us) = 0 → samesT (plainTs xs d) us = true := by
  intro xs us d hd hg hf hu hc
  cases xs with
  | nil => simp [plainTs, samesT]
  | cons x xs =>
    cases us with
    | nil => simp [builds, cmpsV] at hc
    | cons u us =>
      simp only [builds, cmpsV_cons] at hc
      obtain ⟨h1, h2⟩ := thn_both hc
      simp only [oksD] at hd
      simp only [goodsV] at hg
      simp only [builds, flsV] at hf hu
      simp only [plainTs, samesT, same_plain x u d hd.1 hg.1 hf.1 hu.1 h1, same_plains xs us d hd.2 hg.2 hf.2 hu.2 h2, Bool.and_self]
theorem same_plainsE : ∀ (xs : List V) (ns ms : List ByteArray) (us : List Tm) (d : Int), oksD xs d → goodsV xs → flsV xs → flsV (builds us) → cmpF xs ns ms (builds us) = 0 → samesE (plainTs xs d) ns ms us = true := by
  intro xs ns ms us d hd hg hf hu hc
  cases xs with
  | nil => simp [plainTs, samesE]
  | cons x xs =>
    cases us with
    | nil => simp [builds, cmpF] at hc
    | cons u us =>
      simp only [builds, cmpF_cons] at hc
      obtain ⟨h0, hc⟩ := thn_both hc
      obtain ⟨h1, h2⟩ := thn_both hc
      simp only [oksD] at hd
      simp only [goodsV] at hg
      simp only [builds, flsV] at hf hu
      simp only [plainTs, samesE, cmpT_zero h0, same_plain x u d hd.1 hg.1 hf.1 hu.1 h1, same_plainsE xs ns.tail ms.tail us d hd.2 hg.2 hf.2 hu.2 h2, Bool.and_self]
end

mutual
theorem part_okD : ∀ (x : V) (deep n m d : Int), (partV x deep n m).2.2 = 0 → d ≤ deep + 300 → okD x d := by
  intro x deep n m d h hd
  cases x with
  | list l =>
    simp only [partV] at h
    split at h
    · rename_i h1; have := (ownE_lt h1).2; simp only [okD]; exact ⟨by omega, parts_okD l _ _ _ _ h (by omega)⟩
    · rename_i h1; exact absurd h h1
  | dict ns l =>
    simp only [partV] at h
    split at h
    · rename_i h1; have := (ownE_lt h1).2; simp only [okD]; exact ⟨by omega, parts_okD l _ _ _ _ h (by omega)⟩
    · rename_i h1; exact absurd h h1
  | recd c r ns l =>
    simp only [partV] at h
    split at h
    · rename_i h1; have := (ownE_lt h1).2; simp only [okD]; exact ⟨by omega, parts_okD l _ _ _ _ h (by omega)⟩
    · rename_i h1; exact absurd h h1
  | nothing => simp [partV, own_nothing rfl] at h
  | alien => simp [partV, own_alien rfl] at h
  | nil => simp only [partV] at h; split at h; rename_i h1; have := (ownE_lt h1).2; simp only [okD]; omega; rename_i h1; exact absurd h h1
  | bool b => simp only [partV] at h; split at h; rename_i h1; have := (ownE_lt h1).2; simp only [okD]; omega; rename_i h1; exact absurd h h1
  | int b => simp only [partV] at h; split at h; rename_i h1; have := (ownE_lt h1).2; simp only [okD]; omega; rename_i h1; exact absurd h h1
  | float b => simp only [partV] at h; split at h; rename_i h1; have := (ownE_lt h1).2; simp only [okD]; omega; rename_i h1; exact absurd h h1
  | text b => simp only [partV] at h; split at h; rename_i h1; have := (ownE_lt h1).2; simp only [okD]; omega; rename_i h1; exact absurd h h1
  | bytes b => simp only [partV] at h; split at h; rename_i h1; have := (ownE_lt h1).2; simp only [okD]; omega; rename_i h1; exact absurd h h1
  | ref b => simp only [partV] at h; split at h; rename_i h1; have := (ownE_lt h1).2; simp only [okD]; omega; rename_i h1; exact absurd h h1
theorem parts_okD : ∀ (xs : List V) (deep n m d : Int), (partsV xs deep n m).2.2 = 0 → d ≤ deep + 300 → oksD xs d := by
  intro xs deep n m d h hd
  cases xs with
  | nil => simp [oksD]
  | cons x xs =>
    simp only [partsV] at h
    split at h
    · rename_i h1; simp only [oksD]; exact ⟨part_okD x _ _ _ _ h1 hd, parts_okD xs _ _ _ _ h hd⟩
    · rename_i h1; exact absurd h h1
end
theorem check_okD {x : V} (h : (checkV x).2 = 0) : okD x 0 := by
  unfold checkV at h
  split at h
  · rename_i h1; exact part_okD x _ _ _ 0 h1 (by omega)
  · rename_i h1; exact absurd h h1

theorem float_lt {f : Nat} (h : (Lit.float .f64 f).wf = true) : f < 18446744073709551616 := by
  simpa [Lit.wf] using h
mutual
theorem VAt.fl {w : World} : ∀ (x : V) {v : Value} {S : List Nat}, VAt w x v S → flV x := by
  intro x v S h
  cases x with
  | float f => obtain ⟨_, _, hf⟩ := (by simpa only [VAt] using h); simp only [flV]; exact float_lt hf
  | list l => obtain ⟨g, cap, vs, Ss, _, _, hv, _⟩ := (by simpa only [VAt] using h); simp only [flV]; exact VsAt.fl l hv
  | dict ns l => obtain ⟨g, cap, vs, Ss, _, _, hv, _⟩ := (by simpa only [VAt] using h); simp only [flV]; exact VsAt.fl l hv
  | recd c r ns l => obtain ⟨p, g, cap, vs, Ss, _, _, _, hv, _⟩ := (by simpa only [VAt] using h); simp only [flV]; exact VsAt.fl l hv
  | _ => simp [flV]
theorem VsAt.fl {w : World} : ∀ (xs : List V) {vs : List Value} {S : List Nat}, VsAt w xs vs S → flsV xs := by
  intro xs vs S h
  cases xs with
  | nil => simp [flsV]
  | cons x xs =>
    obtain ⟨v, vr, S1, S2, _, _, h1, h2⟩ := (by simpa only [VsAt] using h)
    simp only [flsV]
    exact ⟨VAt.fl x h1, VsAt.fl xs h2⟩
end
theorem fl_ite {c : Prop} [Decidable c] {a b : V} (h1 : flV a) (h2 : flV b) : flV (if c then a else b) := by split; exact h1; exact h2
mutual
theorem TmAt.fl {w : World} {B : Nat} : ∀ (t : Tm) {cs : List Value}, TmAt w B t cs → flV (build t) := by
  intro t cs h
  cases t with
  | mk k b i f s bs r l ns vs c v =>
    simp only [TmAt] at h
    obtain ⟨A5, c5, A7, c7, A8, c8, e, h5, ⟨rows, h7, h7'⟩, hn, ⟨rows8, h8, h8'⟩, hb, hw⟩ := h
    have h1 := TmsAt.fl l h7'
    have h2 := TmsAt.fl vs h8'
    unfold build
    exact fl_ite (by simp only [flV]) (fl_ite (by simp only [flV]) (fl_ite (by simp only [flV]) (fl_ite (by simp only [flV]; exact float_lt hw.2.2.1) (fl_ite (by simp only [flV]) (fl_ite (by simp only [flV]) (fl_ite (by simp only [flV]) (fl_ite (by simp only [flV]; exact h1) (fl_ite (by simp only [flV]; exact h2) (fl_ite (by simp only [flV]; exact h2) (fl_ite (by simp only [flV]) (by simp only [flV])))))))))))
theorem TmsAt.fl {w : World} {B : Nat} : ∀ (ts : List Tm) {rows : List (List Value)}, TmsAt w B ts rows → flsV (builds ts) := by
  intro ts rows h
  cases ts with
  | nil => simp [builds, flsV]
  | cons t ts =>
    simp only [TmsAt] at h
    obtain ⟨r, rs, e, h1, h2⟩ := h
    simp only [builds, flsV]
    exact ⟨TmAt.fl t h1, TmsAt.fl ts h2⟩
end
end Go.Proofs.Ythanmakakcmkeaa
