/- The order of lists, dicts, records; value.order whole. -/
import Derived.Test.YthanmakakcmkeaaOrder2
import Derived.Test.YthanmakakcmkeaaReg
namespace Go.Proofs.Ythanmakakcmkeaa
open Go.RowKit

theorem cmpsV_drop {a b : List V} {k : Nat} (ha : k < a.length) (hb : k < b.length) : cmpsV (a.drop k) (b.drop k) = if cmpV a[k] b[k] = 0 then cmpsV (a.drop (k + 1)) (b.drop (k + 1)) else cmpV a[k] b[k] := by
  rw [List.drop_eq_getElem_cons ha, List.drop_eq_getElem_cons hb, cmpsV]
theorem cmpsV_end_left {a b : List V} {k : Nat} (ha : k = a.length) (hb : k < b.length) : cmpsV (a.drop k) (b.drop k) = -1 := by
  rw [List.drop_eq_nil_of_le (by omega), List.drop_eq_getElem_cons hb, cmpsV]
theorem cmpsV_end_right {a b : List V} {k : Nat} (ha : k < a.length) (hb : b.length ≤ k) : cmpsV (a.drop k) (b.drop k) = 1 := by
  rw [List.drop_eq_nil_of_le hb, List.drop_eq_getElem_cons ha, cmpsV]
theorem cmpsV_end {a b : List V} {k : Nat} (ha : k = a.length) (hb : b.length ≤ k) : cmpsV (a.drop k) (b.drop k) = 0 := by
  rw [List.drop_eq_nil_of_le hb, List.drop_eq_nil_of_le (by omega), cmpsV]

/-- how two fields stand -/
def cmp1 (n m : ByteArray) (x y : V) : Int := if cmpT n m = 0 then cmpV x y else cmpT n m
theorem cmpF_step (x : V) (xs : List V) (y : V) (ys : List V) (ns ms : List ByteArray) : cmpF (x :: xs) ns ms (y :: ys) = if cmp1 (ns.headD ByteArray.empty) (ms.headD ByteArray.empty) x y = 0 then cmpF xs ns.tail ms.tail ys else cmp1 (ns.headD ByteArray.empty) (ms.headD ByteArray.empty) x y := by
  simp only [cmpF, cmp1]
  by_cases h : cmpT (ns.headD ByteArray.empty) (ms.headD ByteArray.empty) = 0
  · simp only [if_pos h]
  · simp only [if_neg h]
theorem headD_drop (l : List ByteArray) (k : Nat) : (l.drop k).headD ByteArray.empty = l.getD k ByteArray.empty := by
  rw [List.headD_eq_head?_getD, List.head?_drop, List.getD_eq_getElem?_getD]
theorem cmpF_drop {a b : List V} {ns ms : List ByteArray} {k : Nat} (ha : k < a.length) (hb : k < b.length) : cmpF (a.drop k) (ns.drop k) (ms.drop k) (b.drop k) =
    if cmp1 (ns.getD k ByteArray.empty) (ms.getD k ByteArray.empty) a[k] b[k] = 0 then cmpF (a.drop (k + 1)) (ns.drop (k + 1)) (ms.drop (k + 1)) (b.drop (k + 1)) else cmp1 (ns.getD k ByteArray.empty) (ms.getD k ByteArray.empty) a[k] b[k] := by
  rw [List.drop_eq_getElem_cons ha, List.drop_eq_getElem_cons hb, cmpF_step, headD_drop, headD_drop, List.tail_drop, List.tail_drop]
theorem cmpF_end_left {a b : List V} {ns ms : List ByteArray} {k : Nat} (ha : k = a.length) (hb : k < b.length) : cmpF (a.drop k) (ns.drop k) (ms.drop k) (b.drop k) = -1 := by
  rw [List.drop_eq_nil_of_le (by omega), List.drop_eq_getElem_cons hb]; simp only [cmpF]
theorem cmpF_end_right {a b : List V} {ns ms : List ByteArray} {k : Nat} (ha : k < a.length) (hb : b.length ≤ k) : cmpF (a.drop k) (ns.drop k) (ms.drop k) (b.drop k) = 1 := by
  rw [List.drop_eq_nil_of_le hb, List.drop_eq_getElem_cons ha]; simp only [cmpF]
theorem cmpF_end {a b : List V} {ns ms : List ByteArray} {k : Nat} (ha : k = a.length) (hb : b.length ≤ k) : cmpF (a.drop k) (ns.drop k) (ms.drop k) (b.drop k) = 0 := by
  rw [List.drop_eq_nil_of_le hb, List.drop_eq_nil_of_le (by omega)]; simp only [cmpF]
theorem goodsV_get : ∀ (xs : List V), goodsV xs → ∀ x ∈ xs, goodV x
  | [], _, x, hx => by cases hx
  | y :: ys, h, x, hx => by
    simp only [goodsV] at h
    rcases List.mem_cons.1 hx with rfl | hx
    · exact h.1
    · exact goodsV_get ys h.2 x hx

set_option maxRecDepth 20000 in
set_option maxHeartbeats 4000000 in
theorem cmpList_any (a b : List V) (g1 c1 g2 c2 : Nat) (vs us : List Value) (S T : List Nat) (w : World) (h1 : Row w 20 1 g1 c1 a.length vs) (h2 : Row w 20 1 g2 c2 b.length us) (v1 : VsAt w a vs S) (v2 : VsAt w b us T)
    (ga : goodsV a) (gb : goodsV b) (ih : ∀ x ∈ a, OrderAt x) (ha : a.length ≤ 1048576) (r : Int) (hr : cmpsV a b = r) :
    Calls Try.prog 101 #[.slice (some ⟨g1, 0, none⟩) a.length c1, .slice (some ⟨g2, 0, none⟩) b.length c2, .func (.func 69) #[] #[]] w (Gives r w) := by
  have H1 := Lib.hid h1
  have H2 := Lib.hid h2
  have V1 := Lib.hid v1
  have V2 := Lib.hid v2
  have HR := Lib.hid hr
  have GA := Lib.hid (goodsV_get a ga)
  have GB := Lib.hid (goodsV_get b gb)
  have HIH := Lib.hid ih
  clear h1 h2 hr v1 v2 ga gb ih
  go_enter Try.func101, Try.ntmps101
  go_wp2
  go_loopw [7, 8, 9, 10, 13] (fun v7 v8 v9 v10 v13 wr => ∃ k : Nat, k ≤ a.length ∧ v13 = .int .i64 k ∧ cmpsV (a.drop k) (b.drop k) = r ∧ Below w.heap.size w wr) (fun _ _ _ _ v _ => a.length - (intOf v).toNat)
  case atStart => exact ⟨0, by omega, rfl, by simpa using HR.out, Below.refl _ _⟩
  case round =>
    obtain ⟨k, hk, rfl, heq, hbl⟩ := hrel
    have HEQ := Lib.hid heq
    have HBL := Lib.hid hbl
    clear heq hbl
    have hk0 : (0 : Int) ≤ (k : Int) := Int.natCast_nonneg _
    by_cases hlt : k < a.length
    · have hk1 : (k : Int) < (a.length : Int) := by omega
      obtain ⟨x, S1, hx, hvx, _⟩ := VsAt.getk (V1.out.below HBL.out) hlt
      have hca : wr.cell? ⟨g1, k, none⟩ = some x := by rw [(H1.out.below HBL.out).cell k (by omega), hx]
      by_cases hlb : k < b.length
      · have hk2 : (k : Int) < (b.length : Int) := by omega
        have hge : decide ((b.length : Int) ≤ (k : Int)) = false := by simp; omega
        obtain ⟨y, T1, hy, hvy, _⟩ := VsAt.getk (V2.out.below HBL.out) hlb
        have hcb : wr.cell? ⟨g2, k, none⟩ = some y := by rw [(H2.out.below HBL.out).cell k (by omega), hy]
        have hstep := HEQ.out
        rw [cmpsV_drop hlt hlb] at hstep
        have hc := HIH.out _ (List.getElem_mem hlt) b[k] x y S1 T1 wr hvx hvy (GA.out _ (List.getElem_mem hlt)) (GB.out _ (List.getElem_mem hlb))
        generalize cmpV a[k] b[k] = s at hc hstep
        have HSTEP := Lib.hid hstep
        have HC := Lib.hid hc
        have hfx := hvx.form
        have hfy := hvy.form
        clear hstep hc hvx hvy hx hy
        by_cases hs : s = 0
        · subst hs
          rcases hfx with rfl | ⟨T3, x, rfl⟩ <;> rcases hfy with rfl | ⟨T4, y, rfl⟩
          all_goals
            go_wp2_with (first | (go_at_call 69; refine HC.out.mono ?_; rintro e w1 ⟨rfl, hb1⟩))
            go_roundw
            case rel => exact ⟨k + 1, by omega, by go_num, by simpa using HSTEP.out, HBL.out.trans (hb1.mono HBL.out.size)⟩
            case measure => simp [intOf]; omega
        · have hsb : (s != 0) = true := by simpa using hs
          rcases hfx with rfl | ⟨T3, x, rfl⟩ <;> rcases hfy with rfl | ⟨T4, y, rfl⟩
          all_goals
            go_wp2_with (first | (go_at_call 69; refine HC.out.mono ?_; rintro e w1 ⟨rfl, hb1⟩))
            go_ret
            have h3 := HSTEP.out
            rw [if_neg hs] at h3
            exact ⟨by rw [← h3]; rfl, HBL.out.trans (hb1.mono HBL.out.size)⟩
      · have hge : decide ((b.length : Int) ≤ (k : Int)) = true := by simp; omega
        have hfx := hvx.form
        clear hvx hx
        rcases hfx with rfl | ⟨T3, x, rfl⟩
        all_goals
          go_wp2
          go_ret
          exact ⟨by rw [← HEQ.out, cmpsV_end_right hlt (by omega)]; rfl, HBL.out⟩
    · obtain rfl : k = a.length := by omega
      by_cases hlb : a.length < b.length
      · have hd : decide ((a.length : Int) < (b.length : Int)) = true := by simp; omega
        go_wp2
        go_ret
        exact ⟨by rw [← HEQ.out, cmpsV_end_left rfl hlb]; rfl, HBL.out⟩
      · have hd : decide ((a.length : Int) < (b.length : Int)) = false := by simp; omega
        go_wp2
        go_ret
        exact ⟨by rw [← HEQ.out, cmpsV_end rfl (by omega)]; rfl, HBL.out⟩

set_option maxRecDepth 20000 in
set_option maxHeartbeats 2000000 in
theorem vfield_any (n m : ByteArray) (x y : V) (v u : Value) (S T : List Nat) (w : World) (hx : VAt w x v S) (hy : VAt w y u T) (gx : goodV x) (gy : goodV y) (ih : OrderAt x) (r : Int) (hr : cmp1 n m x y = r) :
    Calls Try.prog 103 #[.agg #[.string n, v], .agg #[.string m, u]] w (Gives r w) := by
  have HT := Lib.hid (vcmpString_any n m)
  have hbl : Below w.heap.size w ((w.alloc (.cells #[.string n, v] 112)).alloc (.cells #[.string m, u] 112)) := ((Below.refl _ _).alloc (Nat.le_refl _) _).alloc (by simp) _
  have hc := ih y v u S T _ (hx.below hbl) (hy.below hbl) gx gy
  unfold cmp1 at hr
  generalize cmpT n m = t at HT hr
  generalize cmpV x y = s at hc hr
  have HC := Lib.hid hc
  have HBL := Lib.hid hbl
  have hfx := hx.form
  have hfy := hy.form
  clear hc hbl hx hy gx gy ih
  by_cases ht : t = 0
  · subst ht
    simp only [if_true] at hr
    subst hr
    rcases hfx with rfl | ⟨T3, v, rfl⟩ <;> rcases hfy with rfl | ⟨T4, u, rfl⟩
    all_goals
      go_enter Try.func103, Try.ntmps103
      go_wp2_with (first | (go_at_call 98; refine (HT.out _).mono ?_; rintro e w1 ⟨rfl, rfl⟩) | (go_at_call 69; refine HC.out.mono ?_; rintro e w1 ⟨rfl, hb1⟩))
      go_ret
      exact ⟨rfl, HBL.out.trans (hb1.mono HBL.out.size)⟩
  · have htb : (t != 0) = true := by simpa using ht
    rw [if_neg ht] at hr
    subst hr
    rcases hfx with rfl | ⟨T3, v, rfl⟩ <;> rcases hfy with rfl | ⟨T4, u, rfl⟩
    all_goals
      go_enter Try.func103, Try.ntmps103
      go_wp2_with (first | (go_at_call 98; refine (HT.out _).mono ?_; rintro e w1 ⟨rfl, rfl⟩) | (go_at_call 69; refine HC.out.mono ?_; rintro e w1 ⟨rfl, hb1⟩))
      go_ret
      exact ⟨rfl, HBL.out⟩

set_option maxRecDepth 20000 in
set_option maxHeartbeats 8000000 in
theorem cmpDict_any (a b : List V) (ns ms : List ByteArray) (g1 c1 g2 c2 : Nat) (vs us : List Value) (S T : List Nat) (w : World) (h1 : Row w 112 2 g1 c1 a.length (fldCells ns vs)) (h2 : Row w 112 2 g2 c2 b.length (fldCells ms us)) (v1 : VsAt w a vs S) (v2 : VsAt w b us T)
    (hns : ns.length = a.length) (hms : ms.length = b.length) (ga : goodsV a) (gb : goodsV b) (ih : ∀ x ∈ a, OrderAt x) (ha : a.length ≤ 1048576) (r : Int) (hr : cmpF a ns ms b = r) :
    Calls Try.prog 102 #[.slice (some ⟨g1, 0, none⟩) a.length c1, .slice (some ⟨g2, 0, none⟩) b.length c2, .func (.func 103) #[] #[]] w (Gives r w) := by
  have H1 := Lib.hid h1
  have H2 := Lib.hid h2
  have V1 := Lib.hid v1
  have V2 := Lib.hid v2
  have L1 := Lib.hid (VsAt.length a v1)
  have L2 := Lib.hid (VsAt.length b v2)
  have HR := Lib.hid hr
  have GA := Lib.hid (goodsV_get a ga)
  have GB := Lib.hid (goodsV_get b gb)
  have HIH := Lib.hid ih
  have HNS := Lib.hid hns
  have HMS := Lib.hid hms
  clear h1 h2 hr v1 v2 ga gb ih hns hms
  go_enter Try.func102, Try.ntmps102
  go_wp2
  go_loopw [7, 8, 9, 10, 13] (fun v7 v8 v9 v10 v13 wr => ∃ k : Nat, k ≤ a.length ∧ v13 = .int .i64 k ∧ cmpF (a.drop k) (ns.drop k) (ms.drop k) (b.drop k) = r ∧ Below w.heap.size w wr) (fun _ _ _ _ v _ => a.length - (intOf v).toNat)
  case atStart => exact ⟨0, by omega, rfl, by simpa using HR.out, Below.refl _ _⟩
  case round =>
    obtain ⟨k, hk, rfl, heq, hbl⟩ := hrel
    have HEQ := Lib.hid heq
    have HBL := Lib.hid hbl
    clear heq hbl
    have hk0 : (0 : Int) ≤ (k : Int) := Int.natCast_nonneg _
    by_cases hlt : k < a.length
    · have hk1 : (k : Int) < (a.length : Int) := by omega
      obtain ⟨x, S1, hx, hvx, _⟩ := VsAt.getk (V1.out.below HBL.out) hlt
      have hl1 := L1.out
      have hl2 := L2.out
      have hca0 : wr.cell? ⟨g1, k * 2, none⟩ = some (.string (ns.getD k ByteArray.empty)) := by rw [(H1.out.below HBL.out).cell _ (by omega), (fldCells_name ns vs (by have := HNS.out; omega) k (by omega)).1]
      have hca1 : wr.cell? ⟨g1, k * 2 + 1, none⟩ = some x := by rw [(H1.out.below HBL.out).cell _ (by omega), (fldCells_name ns vs (by have := HNS.out; omega) k (by omega)).2, hx]
      by_cases hlb : k < b.length
      · have hk2 : (k : Int) < (b.length : Int) := by omega
        have hge : decide ((b.length : Int) ≤ (k : Int)) = false := by simp; omega
        obtain ⟨y, T1, hy, hvy, _⟩ := VsAt.getk (V2.out.below HBL.out) hlb
        have hcb0 : wr.cell? ⟨g2, k * 2, none⟩ = some (.string (ms.getD k ByteArray.empty)) := by rw [(H2.out.below HBL.out).cell _ (by omega), (fldCells_name ms us (by have := HMS.out; omega) k (by omega)).1]
        have hcb1 : wr.cell? ⟨g2, k * 2 + 1, none⟩ = some y := by rw [(H2.out.below HBL.out).cell _ (by omega), (fldCells_name ms us (by have := HMS.out; omega) k (by omega)).2, hy]
        have hstep := HEQ.out
        rw [cmpF_drop hlt hlb] at hstep
        generalize ns.getD k ByteArray.empty = n at hca0 hstep
        generalize ms.getD k ByteArray.empty = m at hcb0 hstep
        have hbl2 : Below wr.heap.size wr ((wr.alloc (.cells #[.string n, x] 112)).alloc (.cells #[.string m, y] 112)) := ((Below.refl _ _).alloc (Nat.le_refl _) _).alloc (by simp) _
        have hc := vfield_any n m a[k] b[k] x y S1 T1 _ (hvx.below hbl2) (hvy.below hbl2) (GA.out _ (List.getElem_mem hlt)) (GB.out _ (List.getElem_mem hlb)) (HIH.out _ (List.getElem_mem hlt)) _ rfl
        generalize cmp1 n m a[k] b[k] = s at hc hstep
        have HSTEP := Lib.hid hstep
        have HC := Lib.hid hc
        have HB2 := Lib.hid hbl2
        have hfx := hvx.form
        have hfy := hvy.form
        have hcb0' : (wr.alloc (.cells #[.string n, x] 112)).cell? ⟨g2, k * 2, none⟩ = some (.string m) := cell_alloc _ hcb0
        have hcb1' : (wr.alloc (.cells #[.string n, x] 112)).cell? ⟨g2, k * 2 + 1, none⟩ = some y := cell_alloc _ hcb1
        clear hstep hc hvx hvy hx hy hbl2 hl1 hl2 hcb0 hcb1
        by_cases hs : s = 0
        · subst hs
          rcases hfx with rfl | ⟨T3, x, rfl⟩ <;> rcases hfy with rfl | ⟨T4, y, rfl⟩
          all_goals
            go_wp2_with (first | (go_at_call 103; refine HC.out.mono ?_; rintro e w1 ⟨rfl, hb1⟩))
            go_roundw
            case rel => exact ⟨k + 1, by omega, by go_num, by simpa using HSTEP.out, HBL.out.trans ((HB2.out.trans (hb1.mono HB2.out.size)).mono HBL.out.size)⟩
            case measure => simp [intOf]; omega
        · have hsb : (s != 0) = true := by simpa using hs
          rcases hfx with rfl | ⟨T3, x, rfl⟩ <;> rcases hfy with rfl | ⟨T4, y, rfl⟩
          all_goals
            go_wp2_with (first | (go_at_call 103; refine HC.out.mono ?_; rintro e w1 ⟨rfl, hb1⟩))
            go_ret
            have h3 := HSTEP.out
            rw [if_neg hs] at h3
            exact ⟨by rw [← h3]; rfl, HBL.out.trans ((HB2.out.trans (hb1.mono HB2.out.size)).mono HBL.out.size)⟩
      · have hge : decide ((b.length : Int) ≤ (k : Int)) = true := by simp; omega
        have hfx := hvx.form
        generalize ns.getD k ByteArray.empty = n at hca0
        clear hvx hx hl1 hl2
        rcases hfx with rfl | ⟨T3, x, rfl⟩
        all_goals
          go_wp2
          go_ret
          exact ⟨by rw [← HEQ.out, cmpF_end_right hlt (by omega)]; rfl, HBL.out.alloc HBL.out.size _⟩
    · obtain rfl : k = a.length := by omega
      by_cases hlb : a.length < b.length
      · have hd : decide ((a.length : Int) < (b.length : Int)) = true := by simp; omega
        go_wp2
        go_ret
        exact ⟨by rw [← HEQ.out, cmpF_end_left rfl hlb]; rfl, HBL.out⟩
      · have hd : decide ((a.length : Int) < (b.length : Int)) = false := by simp; omega
        go_wp2
        go_ret
        exact ⟨by rw [← HEQ.out, cmpF_end rfl (by omega)]; rfl, HBL.out⟩

set_option maxRecDepth 20000 in
set_option maxHeartbeats 2000000 in
theorem order_list (a b : List V) (v u : Value) (S T : List Nat) (w : World) (hx : VAt w (.list a) v S) (hy : VAt w (.list b) u T) (ga : goodsV a) (gb : goodsV b) (ih : ∀ x ∈ a, OrderAt x) : Calls Try.prog 69 #[v, u] w (Gives (cmpV (.list a) (.list b)) w) := by
  obtain ⟨g1, c1, vs, Ss, rfl, hr1, hv1, _, hl1⟩ := (by simpa only [VAt] using hx)
  obtain ⟨g2, c2, us, Ts, rfl, hr2, hv2, _, hl2⟩ := (by simpa only [VAt] using hy)
  have HK : Hid (∀ z, z = _ ∨ z = _ → Calls Try.prog 93 #[z] w (fun e w' => e = .returned (.int .i64 8) ∧ w' = w)) := Lib.hid (kind_two (kind_any (.list a) _ S w hx) (kind_any (.list b) _ T w hy))
  have HC : Hid (∀ w, Calls Try.prog 92 #[.int .i64 8, .int .i64 8] w (fun e w' => e = .returned (.int .i64 0) ∧ w' = w)) := Lib.hid fun w => by have := vcmpInt_any 8 8 w; rwa [sgn_self] at this
  have hta := tis_list
  obtain ⟨a1, a2, a3, a4, a5, a6, a7, a8, a9⟩ := tas_list
  simp only [cmpV]
  have HF := Lib.hid (cmpList_any a b g1 c1 g2 c2 vs us Ss Ts w hr1 hr2 hv1 hv2 ga gb ih hl1 _ rfl)
  generalize cmpsV a b = r at HF ⊢
  clear hx hy hr1 hr2 hv1 hv2 ga gb ih
  go_enter Try.func69, Try.ntmps69
  go_wp2_with (first | (go_at_call 93; refine (HK.out _ ?_).mono ?_; (first | exact Or.inl rfl | exact Or.inr rfl); rintro e w1 ⟨rfl, hw1⟩; subst w1) | (go_at_call 92; refine (HC.out _).mono ?_; rintro e w1 ⟨rfl, hw1⟩; subst w1) | (go_at_call 101; refine HF.out.mono ?_; rintro e w2 ⟨rfl, hb2⟩))
  go_ret
  exact ⟨rfl, hb2⟩

set_option maxRecDepth 20000 in
set_option maxHeartbeats 2000000 in
theorem order_dict (ns : List ByteArray) (a : List V) (ms : List ByteArray) (b : List V) (v u : Value) (S T : List Nat) (w : World) (hx : VAt w (.dict ns a) v S) (hy : VAt w (.dict ms b) u T) (ga : goodsV a) (gb : goodsV b) (ih : ∀ x ∈ a, OrderAt x) : Calls Try.prog 69 #[v, u] w (Gives (cmpV (.dict ns a) (.dict ms b)) w) := by
  obtain ⟨g1, c1, vs, Ss, rfl, hr1, hv1, _, hn1, hl1, _⟩ := (by simpa only [VAt] using hx)
  obtain ⟨g2, c2, us, Ts, rfl, hr2, hv2, _, hn2, hl2, _⟩ := (by simpa only [VAt] using hy)
  have HK : Hid (∀ z, z = _ ∨ z = _ → Calls Try.prog 93 #[z] w (fun e w' => e = .returned (.int .i64 9) ∧ w' = w)) := Lib.hid (kind_two (kind_any (.dict ns a) _ S w hx) (kind_any (.dict ms b) _ T w hy))
  have HC : Hid (∀ w, Calls Try.prog 92 #[.int .i64 9, .int .i64 9] w (fun e w' => e = .returned (.int .i64 0) ∧ w' = w)) := Lib.hid fun w => by have := vcmpInt_any 9 9 w; rwa [sgn_self] at this
  have hta := tis_dict
  obtain ⟨a1, a2, a3, a4, a5, a6, a7, a8, a9⟩ := tas_dict
  simp only [cmpV]
  have HF := Lib.hid (cmpDict_any a b ns ms g1 c1 g2 c2 vs us Ss Ts w hr1 hr2 hv1 hv2 hn1 hn2 ga gb ih hl1 _ rfl)
  generalize cmpF a ns ms b = r at HF ⊢
  clear hx hy hr1 hr2 hv1 hv2 ga gb ih
  go_enter Try.func69, Try.ntmps69
  go_wp2_with (first | (go_at_call 93; refine (HK.out _ ?_).mono ?_; (first | exact Or.inl rfl | exact Or.inr rfl); rintro e w1 ⟨rfl, hw1⟩; subst w1) | (go_at_call 92; refine (HC.out _).mono ?_; rintro e w1 ⟨rfl, hw1⟩; subst w1) | (go_at_call 102; refine HF.out.mono ?_; rintro e w2 ⟨rfl, hb2⟩))
  go_ret
  exact ⟨rfl, hb2⟩

set_option maxRecDepth 20000 in
set_option maxHeartbeats 8000000 in
theorem order_rec_class (c : ByteArray) (r : Int) (ns : List ByteArray) (a : List V) (d : ByteArray) (s : Int) (ms : List ByteArray) (b : List V) (v u : Value) (S T : List Nat) (w : World) (hx : VAt w (.recd c r ns a) v S) (hy : VAt w (.recd d s ms b) u T)
    (ga : goodsV a) (gb : goodsV b) (ih : ∀ x ∈ a, OrderAt x) (t1 t2 t3 : Int) (h1 : cmpT c d = t1) (h2 : sgn r s = t2) (h3 : cmpF a ns ms b = t3) (h0 : t1 ≠ 0) : Calls Try.prog 69 #[v, u] w (Gives t1 w) := by
  obtain ⟨p, g1, c1, vs, Ss, rfl, hp1, hr1, hv1, _, hn1, hl1, _⟩ := (by simpa only [VAt] using hx)
  obtain ⟨q, g2, c2, us, Ts, rfl, hp2, hr2, hv2, _, hn2, hl2, _⟩ := (by simpa only [VAt] using hy)
  have HK : Hid (∀ z, z = _ ∨ z = _ → Calls Try.prog 93 #[z] w (fun e w' => e = .returned (.int .i64 10) ∧ w' = w)) := Lib.hid (kind_two (kind_any (.recd c r ns a) _ S w hx) (kind_any (.recd d s ms b) _ T w hy))
  have HC : Hid (∀ w, Calls Try.prog 92 #[.int .i64 10, .int .i64 10] w (fun e w' => e = .returned (.int .i64 0) ∧ w' = w)) := Lib.hid fun w => by have := vcmpInt_any 10 10 w; rwa [sgn_self] at this
  have hta := tis_rec
  obtain ⟨a1, a2, a3, a4, a5, a6, a7, a8, a9⟩ := tas_rec
  have x0 : w.cell? ⟨p, 0, none⟩ = some (.string c) := hp1.cell 0
  have x1 : w.cell? ⟨p, 1, none⟩ = some (.int .i64 r) := hp1.cell 1
  have x2 : w.cell? ⟨p, 2, none⟩ = some (.slice (some ⟨g1, 0, none⟩) a.length c1) := hp1.cell 2
  have y0 : w.cell? ⟨q, 0, none⟩ = some (.string d) := hp2.cell 0
  have y1 : w.cell? ⟨q, 1, none⟩ = some (.int .i64 s) := hp2.cell 1
  have y2 : w.cell? ⟨q, 2, none⟩ = some (.slice (some ⟨g2, 0, none⟩) b.length c2) := hp2.cell 2
  have HT : Hid (∀ w, Calls Try.prog 98 #[.string c, .string d] w (fun e w' => e = .returned (.int .i64 t1) ∧ w' = w)) := Lib.hid (h1 ▸ vcmpString_any c d)
  have HV : Hid (∀ w, Calls Try.prog 92 #[.int .i64 r, .int .i64 s] w (fun e w' => e = .returned (.int .i64 t2) ∧ w' = w)) := Lib.hid (h2 ▸ vcmpInt_any r s)
  have HF : Hid (∀ w', Below w.heap.size w w' → Calls Try.prog 102 #[.slice (some ⟨g1, 0, none⟩) a.length c1, .slice (some ⟨g2, 0, none⟩) b.length c2, .func (.func 103) #[] #[]] w' (Gives t3 w')) :=
    Lib.hid fun w' hb => cmpDict_any a b ns ms g1 c1 g2 c2 vs us Ss Ts w' (hr1.below hb) (hr2.below hb) (hv1.below hb) (hv2.below hb) hn1 hn2 ga gb ih hl1 _ h3
  have hb0 : (t1 != 0) = true := by simpa using h0
  clear hx hy hr1 hr2 hv1 hv2 ga gb ih hp1 hp2 h1 h2 h3
  go_enter Try.func69, Try.ntmps69
  go_wp2_with (first | (go_at_call 93; refine (HK.out _ ?_).mono ?_; (first | exact Or.inl rfl | exact Or.inr rfl); rintro e w1 ⟨rfl, hw1⟩; subst w1) | (go_at_call 92; refine (HC.out _).mono ?_; rintro e w1 ⟨rfl, hw1⟩; subst w1))
  go_quiet (first | (go_at_call 98; refine Calls.quiet_of_same (HT.out _)) | (go_at_call 92; refine Calls.quiet_of_same (HV.out _)))
  go_wp2
  go_ret
  exact ⟨rfl, below_drewN (Below.refl _ _) _⟩

set_option maxRecDepth 20000 in
set_option maxHeartbeats 8000000 in
theorem order_rec_ver (c : ByteArray) (r : Int) (ns : List ByteArray) (a : List V) (d : ByteArray) (s : Int) (ms : List ByteArray) (b : List V) (v u : Value) (S T : List Nat) (w : World) (hx : VAt w (.recd c r ns a) v S) (hy : VAt w (.recd d s ms b) u T)
    (ga : goodsV a) (gb : goodsV b) (ih : ∀ x ∈ a, OrderAt x) (t1 t2 t3 : Int) (h1 : cmpT c d = t1) (h2 : sgn r s = t2) (h3 : cmpF a ns ms b = t3) (h0 : t1 = 0) (h4 : t2 ≠ 0) : Calls Try.prog 69 #[v, u] w (Gives t2 w) := by
  obtain ⟨p, g1, c1, vs, Ss, rfl, hp1, hr1, hv1, _, hn1, hl1, _⟩ := (by simpa only [VAt] using hx)
  obtain ⟨q, g2, c2, us, Ts, rfl, hp2, hr2, hv2, _, hn2, hl2, _⟩ := (by simpa only [VAt] using hy)
  have HK : Hid (∀ z, z = _ ∨ z = _ → Calls Try.prog 93 #[z] w (fun e w' => e = .returned (.int .i64 10) ∧ w' = w)) := Lib.hid (kind_two (kind_any (.recd c r ns a) _ S w hx) (kind_any (.recd d s ms b) _ T w hy))
  have HC : Hid (∀ w, Calls Try.prog 92 #[.int .i64 10, .int .i64 10] w (fun e w' => e = .returned (.int .i64 0) ∧ w' = w)) := Lib.hid fun w => by have := vcmpInt_any 10 10 w; rwa [sgn_self] at this
  have hta := tis_rec
  obtain ⟨a1, a2, a3, a4, a5, a6, a7, a8, a9⟩ := tas_rec
  have x0 : w.cell? ⟨p, 0, none⟩ = some (.string c) := hp1.cell 0
  have x1 : w.cell? ⟨p, 1, none⟩ = some (.int .i64 r) := hp1.cell 1
  have x2 : w.cell? ⟨p, 2, none⟩ = some (.slice (some ⟨g1, 0, none⟩) a.length c1) := hp1.cell 2
  have y0 : w.cell? ⟨q, 0, none⟩ = some (.string d) := hp2.cell 0
  have y1 : w.cell? ⟨q, 1, none⟩ = some (.int .i64 s) := hp2.cell 1
  have y2 : w.cell? ⟨q, 2, none⟩ = some (.slice (some ⟨g2, 0, none⟩) b.length c2) := hp2.cell 2
  have HT : Hid (∀ w, Calls Try.prog 98 #[.string c, .string d] w (fun e w' => e = .returned (.int .i64 t1) ∧ w' = w)) := Lib.hid (h1 ▸ vcmpString_any c d)
  have HV : Hid (∀ w, Calls Try.prog 92 #[.int .i64 r, .int .i64 s] w (fun e w' => e = .returned (.int .i64 t2) ∧ w' = w)) := Lib.hid (h2 ▸ vcmpInt_any r s)
  have HF : Hid (∀ w', Below w.heap.size w w' → Calls Try.prog 102 #[.slice (some ⟨g1, 0, none⟩) a.length c1, .slice (some ⟨g2, 0, none⟩) b.length c2, .func (.func 103) #[] #[]] w' (Gives t3 w')) :=
    Lib.hid fun w' hb => cmpDict_any a b ns ms g1 c1 g2 c2 vs us Ss Ts w' (hr1.below hb) (hr2.below hb) (hv1.below hb) (hv2.below hb) hn1 hn2 ga gb ih hl1 _ h3
  have hb0 : (t2 != 0) = true := by simpa using h4
  subst h0
  clear hx hy hr1 hr2 hv1 hv2 ga gb ih hp1 hp2 h2 h3
  go_enter Try.func69, Try.ntmps69
  go_wp2_with (first | (go_at_call 93; refine (HK.out _ ?_).mono ?_; (first | exact Or.inl rfl | exact Or.inr rfl); rintro e w1 ⟨rfl, hw1⟩; subst w1) | (go_at_call 92; refine (HC.out _).mono ?_; rintro e w1 ⟨rfl, hw1⟩; subst w1))
  go_quiet (first | (go_at_call 98; refine Calls.quiet_of_same (HT.out _)) | (go_at_call 92; refine Calls.quiet_of_same (HV.out _)))
  go_wp2
  obtain ⟨W, hW⟩ : ∃ W, W = w.drewN nq := ⟨_, rfl⟩
  have HBW : Hid (Below w.heap.size w W) := Lib.hid (by rw [hW]; exact below_drewN (Below.refl _ _) nq)
  have x1W : W.cell? ⟨p, 1, none⟩ = some (.int .i64 r) := by rw [hW]; exact x1
  have x2W : W.cell? ⟨p, 2, none⟩ = some (.slice (some ⟨g1, 0, none⟩) a.length c1) := by rw [hW]; exact x2
  have y1W : W.cell? ⟨q, 1, none⟩ = some (.int .i64 s) := by rw [hW]; exact y1
  have y2W : W.cell? ⟨q, 2, none⟩ = some (.slice (some ⟨g2, 0, none⟩) b.length c2) := by rw [hW]; exact y2
  rw [← hW]
  clear hW nq x0 y0 x1 x2 y1 y2
  go_quiet (first | (go_at_call 98; refine Calls.quiet_of_same (HT.out _)) | (go_at_call 92; refine Calls.quiet_of_same (HV.out _)))
  go_wp2
  go_ret
  exact ⟨rfl, below_drewN HBW.out _⟩

set_option maxRecDepth 20000 in
set_option maxHeartbeats 8000000 in
theorem order_rec_same (c : ByteArray) (r : Int) (ns : List ByteArray) (a : List V) (d : ByteArray) (s : Int) (ms : List ByteArray) (b : List V) (v u : Value) (S T : List Nat) (w : World) (hx : VAt w (.recd c r ns a) v S) (hy : VAt w (.recd d s ms b) u T)
    (ga : goodsV a) (gb : goodsV b) (ih : ∀ x ∈ a, OrderAt x) (t1 t2 t3 : Int) (h1 : cmpT c d = t1) (h2 : sgn r s = t2) (h3 : cmpF a ns ms b = t3) (h0 : t1 = 0) (h4 : t2 = 0) : Calls Try.prog 69 #[v, u] w (Gives t3 w) := by
  obtain ⟨p, g1, c1, vs, Ss, rfl, hp1, hr1, hv1, _, hn1, hl1, _⟩ := (by simpa only [VAt] using hx)
  obtain ⟨q, g2, c2, us, Ts, rfl, hp2, hr2, hv2, _, hn2, hl2, _⟩ := (by simpa only [VAt] using hy)
  have HK : Hid (∀ z, z = _ ∨ z = _ → Calls Try.prog 93 #[z] w (fun e w' => e = .returned (.int .i64 10) ∧ w' = w)) := Lib.hid (kind_two (kind_any (.recd c r ns a) _ S w hx) (kind_any (.recd d s ms b) _ T w hy))
  have HC : Hid (∀ w, Calls Try.prog 92 #[.int .i64 10, .int .i64 10] w (fun e w' => e = .returned (.int .i64 0) ∧ w' = w)) := Lib.hid fun w => by have := vcmpInt_any 10 10 w; rwa [sgn_self] at this
  have hta := tis_rec
  obtain ⟨a1, a2, a3, a4, a5, a6, a7, a8, a9⟩ := tas_rec
  have x0 : w.cell? ⟨p, 0, none⟩ = some (.string c) := hp1.cell 0
  have x1 : w.cell? ⟨p, 1, none⟩ = some (.int .i64 r) := hp1.cell 1
  have x2 : w.cell? ⟨p, 2, none⟩ = some (.slice (some ⟨g1, 0, none⟩) a.length c1) := hp1.cell 2
  have y0 : w.cell? ⟨q, 0, none⟩ = some (.string d) := hp2.cell 0
  have y1 : w.cell? ⟨q, 1, none⟩ = some (.int .i64 s) := hp2.cell 1
  have y2 : w.cell? ⟨q, 2, none⟩ = some (.slice (some ⟨g2, 0, none⟩) b.length c2) := hp2.cell 2
  have HT : Hid (∀ w, Calls Try.prog 98 #[.string c, .string d] w (fun e w' => e = .returned (.int .i64 t1) ∧ w' = w)) := Lib.hid (h1 ▸ vcmpString_any c d)
  have HV : Hid (∀ w, Calls Try.prog 92 #[.int .i64 r, .int .i64 s] w (fun e w' => e = .returned (.int .i64 t2) ∧ w' = w)) := Lib.hid (h2 ▸ vcmpInt_any r s)
  have HF : Hid (∀ w', Below w.heap.size w w' → Calls Try.prog 102 #[.slice (some ⟨g1, 0, none⟩) a.length c1, .slice (some ⟨g2, 0, none⟩) b.length c2, .func (.func 103) #[] #[]] w' (Gives t3 w')) :=
    Lib.hid fun w' hb => cmpDict_any a b ns ms g1 c1 g2 c2 vs us Ss Ts w' (hr1.below hb) (hr2.below hb) (hv1.below hb) (hv2.below hb) hn1 hn2 ga gb ih hl1 _ h3
  subst h0
  subst h4
  clear hx hy hr1 hr2 hv1 hv2 ga gb ih hp1 hp2 h3
  go_enter Try.func69, Try.ntmps69
  go_wp2_with (first | (go_at_call 93; refine (HK.out _ ?_).mono ?_; (first | exact Or.inl rfl | exact Or.inr rfl); rintro e w1 ⟨rfl, hw1⟩; subst w1) | (go_at_call 92; refine (HC.out _).mono ?_; rintro e w1 ⟨rfl, hw1⟩; subst w1))
  go_quiet (first | (go_at_call 98; refine Calls.quiet_of_same (HT.out _)) | (go_at_call 92; refine Calls.quiet_of_same (HV.out _)))
  go_wp2
  obtain ⟨W, hW⟩ : ∃ W, W = w.drewN nq := ⟨_, rfl⟩
  have HBW : Hid (Below w.heap.size w W) := Lib.hid (by rw [hW]; exact below_drewN (Below.refl _ _) nq)
  have x1W : W.cell? ⟨p, 1, none⟩ = some (.int .i64 r) := by rw [hW]; exact x1
  have x2W : W.cell? ⟨p, 2, none⟩ = some (.slice (some ⟨g1, 0, none⟩) a.length c1) := by rw [hW]; exact x2
  have y1W : W.cell? ⟨q, 1, none⟩ = some (.int .i64 s) := by rw [hW]; exact y1
  have y2W : W.cell? ⟨q, 2, none⟩ = some (.slice (some ⟨g2, 0, none⟩) b.length c2) := by rw [hW]; exact y2
  rw [← hW]
  clear hW nq x0 y0 x1 x2 y1 y2
  go_quiet (first | (go_at_call 98; refine Calls.quiet_of_same (HT.out _)) | (go_at_call 92; refine Calls.quiet_of_same (HV.out _)))
  go_wp2
  obtain ⟨U, hU⟩ : ∃ U, U = W.drewN nq := ⟨_, rfl⟩
  have HBU : Hid (Below w.heap.size w U) := Lib.hid (by rw [hU]; exact below_drewN HBW.out nq)
  have x1U : U.cell? ⟨p, 1, none⟩ = some (.int .i64 r) := by rw [hU]; exact x1W
  have x2U : U.cell? ⟨p, 2, none⟩ = some (.slice (some ⟨g1, 0, none⟩) a.length c1) := by rw [hU]; exact x2W
  have y1U : U.cell? ⟨q, 1, none⟩ = some (.int .i64 s) := by rw [hU]; exact y1W
  have y2U : U.cell? ⟨q, 2, none⟩ = some (.slice (some ⟨g2, 0, none⟩) b.length c2) := by rw [hU]; exact y2W
  rw [← hU]
  clear hU nq  x1W x2W y1W y2W
  refine wp_region_held_drew (S := (fun w' => w'.cell? ⟨p, 2, none⟩ = some (.slice (some ⟨g1, 0, none⟩) a.length c1) ∧ w'.cell? ⟨q, 2, none⟩ = some (.slice (some ⟨g2, 0, none⟩) b.length c2))) (by kernel_rfl) (by go_keep) (fun hHeld => ?_)
  refine held_take (i := 0) (v := ?_) rfl (by kernel_rfl) (by kernel_rfl) (by kernel_rfl) (fun _ _ _ h => h) (by kernel_rfl) ?_ hHeld ?_; rotate_left; focus (((intro w hSw; (try dsimp only at hSw); go_simp) <;> with_reducible rfl); done)
  (try simp only [Act.put, List.setIfInBounds_toArray, List.set_cons_zero, List.set_cons_succ])
  refine held_take (i := 1) (v := ?_) rfl (by kernel_rfl) (by kernel_rfl) (by kernel_rfl) (fun _ _ _ h => h) (by kernel_rfl) ?_ hHeld ?_; rotate_left; focus (((intro w hSw; (try dsimp only at hSw); go_simp) <;> with_reducible rfl); done)
  (try simp only [Act.put, List.setIfInBounds_toArray, List.set_cons_zero, List.set_cons_succ])
  refine held_take (i := 2) (v := ?_) rfl (by kernel_rfl) (by kernel_rfl) (by kernel_rfl) (fun _ _ _ h => h) (by kernel_rfl) ?_ hHeld ?_; rotate_left; focus (((intro w hSw; (try dsimp only at hSw); go_simp) <;> with_reducible rfl); done)
  (try simp only [Act.put, List.setIfInBounds_toArray, List.set_cons_zero, List.set_cons_succ])
  refine held_take (i := 3) (v := ?_) rfl (by kernel_rfl) (by kernel_rfl) (by kernel_rfl) (fun _ _ _ h => h) (by kernel_rfl) ?_ hHeld ?_; rotate_left; focus (((intro w hSw; (try dsimp only at hSw); go_simp) <;> with_reducible rfl); done)
  (try simp only [Act.put, List.setIfInBounds_toArray, List.set_cons_zero, List.set_cons_succ])
  refine held_take (i := 4) (v := ?_) rfl (by kernel_rfl) (by kernel_rfl) (by kernel_rfl) (fun _ _ _ h => h) (by kernel_rfl) ?_ hHeld ?_; rotate_left; focus (((intro w hSw; (try dsimp only at hSw); go_simp) <;> with_reducible rfl); done)
  (try simp only [Act.put, List.setIfInBounds_toArray, List.set_cons_zero, List.set_cons_succ])
  refine held_take (i := 5) (v := ?_) rfl (by kernel_rfl) (by kernel_rfl) (by kernel_rfl) (fun _ _ _ h => h) (by kernel_rfl) ?_ hHeld ?_; rotate_left; focus (((intro w hSw; (try dsimp only at hSw); go_simp) <;> with_reducible rfl); done)
  (try simp only [Act.put, List.setIfInBounds_toArray, List.set_cons_zero, List.set_cons_succ])
  refine held_take (i := 6) (v := ?_) rfl (by kernel_rfl) (by kernel_rfl) (by kernel_rfl) (fun _ _ _ h => h) (by kernel_rfl) ?_ hHeld ?_; rotate_left; focus (((intro w hSw; (try dsimp only at hSw); go_simp) <;> with_reducible rfl); done)
  (try simp only [Act.put, List.setIfInBounds_toArray, List.set_cons_zero, List.set_cons_succ])
  refine held_take (i := 7) (v := ?_) rfl (by kernel_rfl) (by kernel_rfl) (by kernel_rfl) (fun _ _ _ h => h) (by kernel_rfl) ?_ hHeld ?_; rotate_left; focus (((intro w hSw; (try dsimp only at hSw); go_simp) <;> with_reducible rfl); done)
  (try simp only [Act.put, List.setIfInBounds_toArray, List.set_cons_zero, List.set_cons_succ])
  refine held_call (i := 8) rfl (by kernel_rfl) (by kernel_rfl) (fun K hK => ?_)
  go_simp
  (refine (HF.out _ HBU.out.drew).mono ?_; rintro e w2 ⟨rfl, hb2⟩)
  refine hK.out _ _ ?_ (fun hHeld2 => ?_)
  · exact ⟨cell_below hb2 hHeld.1, cell_below hb2 hHeld.2⟩
  clear hK K hHeld
  have hHeld := hHeld2
  clear hHeld2
  (try simp only [Act.put, List.setIfInBounds_toArray, List.set_cons_zero, List.set_cons_succ])
  refine held_take (i := 9) (v := ?_) rfl (by kernel_rfl) (by kernel_rfl) (by kernel_rfl) (fun _ _ _ h => h) (by kernel_rfl) ?_ hHeld ?_; rotate_left; focus (((intro w hSw; (try dsimp only at hSw); go_simp) <;> with_reducible rfl); done)
  (try simp only [Act.put, List.setIfInBounds_toArray, List.set_cons_zero, List.set_cons_succ])
  refine wpAnyH_done (by kernel_rfl) ?_ _
  go_wp2
  go_ret
  exact ⟨rfl, HBU.out.drew.trans (hb2.mono HBU.out.drew.size)⟩

theorem order_any : ∀ (k : Nat) (x : V), SizeOf.sizeOf x < k → OrderAt x := by
  intro k
  induction k with
  | zero => intro x hx; omega
  | succ k ihk =>
    intro x hk y v u S T w hx hy gx gy
    by_cases hkk : kindOf x = kindOf y
    · cases x <;> cases y <;> try (simp [kindOf] at hkk; done)
      case nil.nil => exact order_nil v u S T w hx hy
      case bool.bool a b => exact order_bool a b v u S T w hx hy
      case int.int a b => exact order_int a b v u S T w hx hy
      case float.float a b => exact order_float a b v u S T w hx hy
      case text.text a b => exact order_text a b v u S T w hx hy
      case bytes.bytes a b => exact order_bytes a b v u S T w hx hy
      case ref.ref a b => exact order_ref a b v u S T w hx hy
      case list.list a b => exact order_list a b v u S T w hx hy (by simpa only [goodV] using gx) (by simpa only [goodV] using gy) (fun t ht => ihk t (by have := List.sizeOf_lt_of_mem ht; simp at hk; omega))
      case dict.dict n a m b => exact order_dict n a m b v u S T w hx hy (by simpa only [goodV] using gx) (by simpa only [goodV] using gy) (fun t ht => ihk t (by have := List.sizeOf_lt_of_mem ht; simp at hk; omega))
      case recd.recd c r n a d s m b =>
        have gx' := (by simpa only [goodV] using gx)
        have gy' := (by simpa only [goodV] using gy)
        have ih : ∀ t ∈ a, OrderAt t := fun t ht => ihk t (by have := List.sizeOf_lt_of_mem ht; simp at hk; omega)
        by_cases h1 : cmpT c d = 0
        · by_cases h2 : sgn r s = 0
          · simp only [cmpV, if_pos h1, if_pos h2]
            exact order_rec_same c r n a d s m b v u S T w hx hy gx'.2 gy'.2 ih _ _ _ rfl rfl rfl h1 h2
          · simp only [cmpV, if_pos h1, if_neg h2]
            exact order_rec_ver c r n a d s m b v u S T w hx hy gx'.2 gy'.2 ih _ _ _ rfl rfl rfl h1 h2
        · simp only [cmpV, if_neg h1]
          exact order_rec_class c r n a d s m b v u S T w hx hy gx'.2 gy'.2 ih _ _ _ rfl rfl rfl h1
      case nothing.nothing => exact absurd gx (by simp [goodV])
      case alien.alien => exact absurd gx (by simp [goodV])
    · exact order_kinds x y v u S T w hx hy hkk

theorem order (x : V) : OrderAt x := order_any _ x (Nat.lt_succ_self _)
end Go.Proofs.Ythanmakakcmkeaa
