/- digest.Group. -/
import Derived.Test.YthanmakakcmkeaaGroup0
namespace Go.Proofs.Ythanmakakcmkeaa
open Go.RowKit

/-- what Group hands back where all can be -/
def Grouped (w : World) (l : List V) (e : Ending) (w' : World) : Prop := ∃ A cap us S, e = .returned (.tuple #[.slice A (groupK cmpV l).length cap, .int .i64 0]) ∧ Cnts w.heap.size w' (groupK cmpV l) A cap us S ∧ Below w.heap.size w w'

theorem groupK_take {α : Type} (c : α → α → Int) {l : List α} {k : Nat} (h : k < l.length) : groupK c (l.take (k + 1)) = insK c (groupK c (l.take k)) l[k] := by
  rw [List.take_succ_eq_append_getElem h, groupK_snoc]
theorem groupK_len {α : Type} (c : α → α → Int) (l : List α) : (groupK c l).length ≤ l.length := by
  suffices h : ∀ (l : List α) (R : List (α × Int)), (l.foldl (insK c) R).length ≤ R.length + l.length by simpa [groupK] using h l []
  have h1 : ∀ (R : List (α × Int)) (y : α), (insK c R y).length ≤ R.length + 1 := by
    intro R y
    induction R with
    | nil => simp [insK]
    | cons z R ih => obtain ⟨x, n⟩ := z; simp only [insK]; split; simp; omega; split <;> simp
  intro l
  induction l with
  | nil => intro R; simp
  | cons y l ih => intro R; have := ih (insK c R y); have := h1 R y; simp only [List.foldl_cons, List.length_cons]; omega
theorem sum_le {l : List Int} (h : ∀ z ∈ l, 1 ≤ z) : ∀ z ∈ l, z ≤ l.sum := by
  induction l with
  | nil => intro z hz; cases hz
  | cons a l ih =>
    have h1 : 0 ≤ l.sum := by
      clear ih
      induction l with
      | nil => simp
      | cons b l ih => have := ih (fun z hz => h z (by simp at hz ⊢; rcases hz with h | h; exact .inl h; exact .inr (.inr h))); have := h b (by simp); simp; omega
    intro z hz
    rcases List.mem_cons.1 hz with rfl | hz
    · simp; omega
    · have := ih (fun z hz => h z (by simp [hz])) z hz; have := h a (by simp); simp; omega
theorem groupK_cnt {α : Type} (c : α → α → Int) (l : List α) : ∀ z ∈ groupK c l, 1 ≤ z.2 ∧ z.2 ≤ l.length := by
  intro z hz
  refine ⟨groupK_pos c l z hz, ?_⟩
  rw [← groupK_sum c l]
  exact sum_le (fun n hn => by obtain ⟨y, hy, rfl⟩ := List.mem_map.1 hn; exact groupK_pos c l y hy) _ (List.mem_map_of_mem hz)
theorem cmpV_sorted (l : List V) : (groupK cmpV l).Pairwise (fun a b => cmpV a.1 b.1 < 0) := groupK_sorted cmpV (fun _ _ _ => cmpV_trans) cmpV_anti (fun _ _ z h => cmpV_zero_left h z) l

theorem ordD_good {x y : V} (hx : (checkV x).2 = 0) (hy : (checkV y).2 = 0) : ordD x y = cmpV x y := by simp [ordD, orderE, hx, hy]

set_option maxRecDepth 20000 in
set_option maxHeartbeats 2000000 in
theorem group_bad (l : List V) (g cap : Nat) (vs : List Value) (S : List Nat) (w : World) (h : Row w 20 1 g cap l.length vs) (hv : VsAt w l vs S) (hl : l.length ≤ 1048576) (he : errG l ≠ 0) :
    Calls Try.prog 8 #[.slice (some ⟨g, 0, none⟩) l.length cap] w (fun e w' => e = .returned (.tuple #[.slice none 0 0, .int .i64 (errG l)]) ∧ Below w.heap.size w w') := by
  have HR := Lib.hid h
  have HV := Lib.hid hv
  have HE := Lib.hid he
  obtain ⟨er, her⟩ : ∃ er, errG l = er := ⟨_, rfl⟩
  rw [her]
  have HER := Lib.hid her
  clear h hv he her
  go_enter Try.func8, Try.ntmps8
  go_wp2
  go_loopw [6, 7, 8, 15] (fun v6 v7 v8 v15 wr => ∃ k : Nat, k ≤ l.length ∧ v15 = .int .i64 k ∧ errG (l.drop k) = er ∧ Below w.heap.size w wr) (fun _ _ _ v _ => l.length - (intOf v).toNat)
  case atStart => exact ⟨0, Nat.zero_le _, rfl, by simpa using HER.out, Below.refl _ _⟩
  case round =>
    obtain ⟨k, hk, rfl, heq, hbl⟩ := hrel
    have HEQ := Lib.hid heq
    have HBL := Lib.hid hbl
    have hws := hbl.size
    clear heq hbl
    have hk0 : (0 : Int) ≤ (k : Int) := Int.natCast_nonneg _
    by_cases hlt : k < l.length
    · have hk1 : (k : Int) < (l.length : Int) := by omega
      obtain ⟨x, S1, hx, hvx, _⟩ := VsAt.getk (HV.out.below HBL.out) hlt
      have hc0 : wr.cell? ⟨g, k, none⟩ = some x := by rw [(HR.out.below HBL.out).cell k (by omega), hx]
      have hc := checkE_any l[k] x S1 wr hvx
      have hst := HEQ.out
      rw [List.drop_eq_getElem_cons hlt, errG] at hst
      generalize checkV l[k] = q at hc hst
      obtain ⟨q1, q2⟩ := q
      have HC := Lib.hid hc
      have HST := Lib.hid hst
      have hfx := hvx.form
      clear hc hx hvx hst
      by_cases hq : q2 = 0
      · subst hq
        rcases hfx with rfl | ⟨T, x, rfl⟩
        all_goals
          go_wp2_with (go_at_call 30; refine HC.out.mono ?_; rintro e w1 ⟨rfl, hb1⟩)
          go_roundw
          case rel => exact ⟨k + 1, by omega, by go_num, by simpa using HST.out, HBL.out.trans (hb1.mono hws)⟩
          case measure => simp [intOf]; omega
      · have hq0 : (q2 != 0) = true := by simpa using hq
        rcases hfx with rfl | ⟨T, x, rfl⟩
        all_goals
          go_wp2_with (go_at_call 30; refine HC.out.mono ?_; rintro e w1 ⟨rfl, hb1⟩)
          go_ret2
          have h3 := HST.out
          rw [if_neg hq] at h3
          exact ⟨by rw [← h3]; rfl, HBL.out.trans (hb1.mono hws)⟩
    · exfalso
      obtain rfl : k = l.length := by omega
      have h3 := HEQ.out
      rw [List.drop_of_length_le (Nat.le_refl _)] at h3
      simp only [errG] at h3
      exact HE.out (by rw [HER.out, ← h3])

/-- where the search ends, and what is there -/
theorem place_case (R : List (V × Int)) (y : V) : (∃ z, R[placeK cmpV R y]? = some z ∧ cmpV z.1 y = 0 ∧ insK cmpV R y = R.set (placeK cmpV R y) (z.1, z.2 + 1)) ∨
    ((∀ z, R[placeK cmpV R y]? = some z → cmpV z.1 y ≠ 0) ∧ insK cmpV R y = R.take (placeK cmpV R y) ++ (y, 1) :: R.drop (placeK cmpV R y)) := by
  have h := insK_eq cmpV R y
  cases hz : R[placeK cmpV R y]? with
  | none => rw [hz] at h; exact .inr ⟨fun z hz' => (by cases hz'), h⟩
  | some z =>
    rw [hz] at h
    by_cases h0 : cmpV z.1 y = 0
    · simp only [h0, if_true] at h; exact .inl ⟨z, rfl, h0, h⟩
    · simp only [h0, if_false] at h; exact .inr ⟨fun z' hz' => (by cases hz'; exact h0), h⟩

def askF (R : List (V × Int)) (y : V) (j : Nat) : Int := match R[j]? with | some z => cmpV z.1 y | none => 0
theorem askF_some {R : List (V × Int)} {y : V} {j : Nat} {z : V × Int} (h : R[j]? = some z) : askF R y j = cmpV z.1 y := by simp [askF, h]

theorem bin_cnts (B : Nat) (R : List (V × Int)) (A : Option Addr) (cap : Nat) (us : List Value) (S : List Nat) (y : V) (u : Value) (T : List Nat) (w : World) (h : Cnts B w R A cap us S) (hn : R.length ≤ 1048576) (hs : R.Pairwise (fun a b => cmpV a.1 b.1 < 0)) (hg : ∀ z ∈ R, (checkV z.1).2 = 0)
    (hy : VAt w y u T) (hgy : (checkV y).2 = 0) (q : Bool) (hq : (decide (placeK cmpV R y < R.length) && decide (askF R y (placeK cmpV R y) = 0)) = q) :
    Calls Try.prog 31 #[.slice A R.length cap, u, .func (.func 32) #[] #[]] w (fun e w' => e = .returned (.tuple #[.int .i64 (placeK cmpV R y), .bool q]) ∧ Below w.heap.size w w') := by
  refine bin_any A R.length cap _ u w h.row hn (askF R y) ?_ (placeK cmpV R y) (placeK_le cmpV R y) ?_ ?_ q hq
  · intro k hk
    have hk1 : k < (R.map (·.1)).length := by simpa using hk
    obtain ⟨v, S1, hv, hva, _⟩ := VsAt.getk h.vals hk1
    have hz : R[k]? = some R[k] := List.getElem?_eq_getElem hk
    obtain ⟨e1, e2⟩ := cnt_get (n := R[k].2) hv (show (R.map (·.2))[k]? = some R[k].2 by simp [hz])
    refine ⟨v, R[k].2, e1, e2, fun W hW => ?_⟩
    have hc := dGroup1_any (R.map (·.1))[k] y v u R[k].2 S1 T W (hva.below hW) (hy.below hW)
    rw [List.getElem_map, ordD_good (hg _ (List.getElem_mem hk)) hgy] at hc
    rw [askF_some hz]
    exact hc
  · intro k hk
    have hkl : k < R.length := Nat.lt_of_lt_of_le hk (placeK_le cmpV R y)
    rw [askF_some (List.getElem?_eq_getElem hkl)]
    exact placeK_lo cmpV R y k _ hk (List.getElem?_eq_getElem hkl)
  · intro k hk hkl
    rw [askF_some (List.getElem?_eq_getElem hkl)]
    exact placeK_hi cmpV (fun _ _ _ => cmpV_trans) R y hs k _ hk (List.getElem?_eq_getElem hkl)

theorem map_set_same {R : List (V × Int)} {p : Nat} {z1 : V} {z2 m : Int} (h : R[p]? = some (z1, z2)) : (R.set p (z1, m)).map (·.1) = R.map (·.1) := by
  apply List.ext_getElem?
  intro i
  rw [List.getElem?_map, List.getElem?_map, List.getElem?_set]
  by_cases hi : p = i
  · subst hi
    obtain ⟨h1, h2⟩ := List.getElem?_eq_some_iff.1 h
    simp [h1, h2]
  · simp [hi]

set_option maxRecDepth 20000 in
set_option maxHeartbeats 8000000 in
theorem group_good (l : List V) (g cap : Nat) (vs : List Value) (S : List Nat) (w : World) (h : Row w 20 1 g cap l.length vs) (hv : VsAt w l vs S) (hl : l.length ≤ 1048576) (he : errG l = 0) :
    Calls Try.prog 8 #[.slice (some ⟨g, 0, none⟩) l.length cap] w (Grouped w l) := by
  have HR := Lib.hid h
  have HV := Lib.hid hv
  have HG := Lib.hid (errG_good he)
  clear h hv he
  go_enter Try.func8, Try.ntmps8
  go_wp2
  go_loopw [6, 7, 8, 15] (fun v6 v7 v8 v15 wr => ∃ k : Nat, k ≤ l.length ∧ v15 = .int .i64 k ∧ Below w.heap.size w wr) (fun _ _ _ v _ => l.length - (intOf v).toNat)
  case atStart => exact ⟨0, Nat.zero_le _, rfl, Below.refl _ _⟩
  case round =>
    obtain ⟨k, hk, rfl, hbl⟩ := hrel
    have HBL := Lib.hid hbl
    have hws := hbl.size
    clear hbl
    have hk0 : (0 : Int) ≤ (k : Int) := Int.natCast_nonneg _
    by_cases hlt : k < l.length
    · have hk1 : (k : Int) < (l.length : Int) := by omega
      obtain ⟨x, S1, hx, hvx, _⟩ := VsAt.getk (HV.out.below HBL.out) hlt
      have hc0 : wr.cell? ⟨g, k, none⟩ = some x := by rw [(HR.out.below HBL.out).cell k (by omega), hx]
      have hc := checkE_any l[k] x S1 wr hvx
      rw [check_zero (HG.out _ (List.getElem_mem hlt))] at hc
      have HC := Lib.hid hc
      have hfx := hvx.form
      clear hc hx hvx
      rcases hfx with rfl | ⟨T, x, rfl⟩
      all_goals
        go_wp2_with (go_at_call 30; refine HC.out.mono ?_; rintro e w1 ⟨rfl, hb1⟩)
        go_roundw
        case rel => exact ⟨k + 1, by omega, by go_num, HBL.out.trans (hb1.mono hws)⟩
        case measure => simp [intOf]; omega
    · obtain rfl : k = l.length := by omega
      go_wp2
      obtain ⟨W0, hW0⟩ : ∃ W0 : World, W0 = wr := ⟨_, rfl⟩
      rw [← hW0] at HBL hws ⊢
      clear hW0 wr
      go_loopw [4, 30] (fun v4 v30 wr => ∃ (k : Nat) (A : Option Addr) (cap : Nat) (us : List Value) (S : List Nat), k ≤ l.length ∧ v30 = .int .i64 k ∧ v4 = .slice A (groupK cmpV (l.take k)).length cap ∧ Cnts w.heap.size wr (groupK cmpV (l.take k)) A cap us S ∧ Below w.heap.size w wr) (fun _ v _ => l.length - (intOf v).toNat)
      case atStart => exact ⟨0, none, 0, [], [], Nat.zero_le _, rfl, rfl, by simpa [groupK] using Cnts.nil _ _, HBL.out⟩
      case round =>
        obtain ⟨k, A, cap', us, S', hk, rfl, rfl, hcn, hbl⟩ := hrel
        have HBK := Lib.hid hbl
        have hwk := hbl.size
        clear hbl
        have hk0 : (0 : Int) ≤ (k : Int) := Int.natCast_nonneg _
        by_cases hlt : k < l.length
        · have hk1 : (k : Int) < (l.length : Int) := by omega
          obtain ⟨x, S1, hx, hvx, _⟩ := VsAt.getk (HV.out.below HBK.out) hlt
          have hc0 : wr.cell? ⟨g, k, none⟩ = some x := by rw [(HR.out.below HBK.out).cell k (by omega), hx]
          have HSTEP := Lib.hid (groupK_take cmpV hlt)
          have hsort := cmpV_sorted (l.take k)
          have hgood : ∀ z ∈ groupK cmpV (l.take k), (checkV z.1).2 = 0 := fun z hz => HG.out _ (List.mem_of_mem_take (groupK_mem cmpV _ z hz))
          have hcnt := groupK_cnt cmpV (l.take k)
          have hlenR : (groupK cmpV (l.take k)).length ≤ k := Nat.le_trans (groupK_len cmpV _) (by simp; omega)
          have HGY := Lib.hid (HG.out _ (List.getElem_mem hlt))
          rw [List.length_take] at hcnt
          generalize groupK cmpV (l.take k) = R at hcn HSTEP hsort hgood hcnt hlenR
          generalize l[k] = y at hvx HSTEP HGY
          have hbin := bin_cnts w.heap.size R A cap' us S' y x S1 wr hcn (by omega) hsort hgood hvx HGY.out
          have hple := placeK_le cmpV R y
          have hcase := place_case R y
          generalize placeK cmpV R y = p at hbin hple hcase
          have HCN := Lib.hid hcn
          have hfx := hvx.form
          have HVX := Lib.hid hvx
          clear hcn hvx hx hsort hgood
          rcases hcase with ⟨z, hz, hz0, hins⟩ | ⟨hno, hins⟩
          · have hpl : p < R.length := (List.getElem?_eq_some_iff.1 hz).1
            have HB := Lib.hid (hbin true (by simp [hpl, askF_some hz, hz0]))
            have hzm := hcnt z (List.mem_of_getElem? hz)
            obtain ⟨gA, rfl, hrow⟩ : ∃ g, A = some ⟨g, 0, none⟩ ∧ Row wr 41 2 g cap' R.length (cntCells us (R.map (·.2))) := by
              rcases HCN.out.row with ⟨_, _, hz, _⟩ | h
              · omega
              · exact h
            have hv2 : us[p]? = some (us[p]'(by rw [HCN.out.len]; exact hpl)) := List.getElem?_eq_getElem _
            have hcc := (cnt_get (n := z.2) hv2 (show (R.map (·.2))[p]? = some z.2 by simp [hz])).2
            have HROW := Lib.hid hrow
            have hlen := HCN.out.len
            have hp0 : (0 : Int) ≤ (p : Int) := Int.natCast_nonneg _
            have hp1 : (p : Int) < (R.length : Int) := by omega
            have hzw : IntKind.i64.wrap (z.2 + 1) = z.2 + 1 := IntWalk.i64_in _ ⟨by omega, by omega⟩
            have HINS := Lib.hid hins
            have HZ := Lib.hid hz
            clear hrow hbin hins hv2 hz hcnt
            obtain ⟨z1, z2⟩ := z
            dsimp only at hcc hzw hzm
            have HCC := Lib.hid hcc
            clear hcc
            rcases hfx with rfl | ⟨T, x, rfl⟩
            all_goals
              go_wp2_with (go_at_call 31; refine HB.out.mono ?_; rintro e w1 ⟨rfl, hb1⟩; have hr1 := HROW.out.below hb1; have hq1 : w1.cell? ⟨gA, p * 2 + 1, none⟩ = some (.int .i64 z2) := (by rw [hr1.cell _ (by omega)]; exact HCC.out); have hf1 := hr1.free (p * 2 + 1); have HR1 := Lib.hid hr1; clear hr1)
              go_roundw
              case rel =>
                refine ⟨k + 1, some ⟨gA, 0, none⟩, cap', us, S', by omega, by go_num, ?_, ?_, ?_⟩
                · rw [HSTEP.out, HINS.out, List.length_set]
                · rw [HSTEP.out, HINS.out]
                  have hset : Fr [gA] w1 (w1.setCell ⟨gA, p * 2 + 1, none⟩ (.int .i64 (z2 + 1))) := (Fr.refl _ _).set (.inl (by simp)) _
                  have hnd := HCN.out.nodup
                  simp only [ownL, List.singleton_append, List.nodup_cons] at hnd
                  refine ⟨?_, ?_, HCN.out.nodup, HCN.out.new⟩
                  · have := HR1.out.set (p * 2 + 1) (.int .i64 (z2 + 1))
                    rw [cnt_set _ _ (by simpa using HCN.out.len)] at this
                    rw [List.length_set, List.map_set]
                    exact this.toN
                  · rw [map_set_same HZ.out]
                    exact (HCN.out.vals.below hb1).fr hset (fun b hb => by simp; rintro rfl; exact hnd.1 hb)
                · exact HBK.out.trans ((hb1.mono hwk).setCell (HCN.out.new gA (by simp [ownL])) _)
              case measure => simp [intOf]; omega
          · have HB := Lib.hid (hbin false (by
              by_cases hpl : p < R.length
              · have hz : R[p]? = some R[p] := List.getElem?_eq_getElem hpl
                simp [hpl, askF_some hz, hno _ hz]
              · simp [hpl]))
            have hcp : ∀ W, Below wr.heap.size wr W → Calls Try.prog 35 #[x] W (NewV W y) := fun W hW => by
              have h := dcopied_any y x S1 W (HVX.out.below hW)
              rwa [show copyD y = y from by simp [copyD, HGY.out]] at h
            have HINS := Lib.hid hins
            clear hbin hins hcnt hno
            have hins3 : ∀ (v : Value) (S2 : List Nat) (W : World), Below wr.heap.size wr W → VAt W y v S2 → Calls Try.prog 34 #[.slice A R.length cap', .int .i64 p, .slice (some ⟨W.heap.size, 0, none⟩) 1 1] (W.alloc (.cells #[v, .int .i64 1] 41)) (Inserted (W.alloc (.cells #[v, .int .i64 1] 41)) A R.length p (cntCells us (R.map (·.2))) v 1) := fun v S2 W hW hv =>
              ins_any A R.length cap' p _ v 1 W.heap.size _ ((HCN.out.row.below hW).alloc _) (by omega) hple (Blk.new _ _ _) (fun hm => by have := HCN.out.row.lt _ hm; have := hW.size; omega) hv.one (cnt_one (VsAt.ones HCN.out.vals))
            have HI3 := Lib.hid hins3
            clear hins3
            by_cases hyn : y = .nil
            · have HC : Hid (∀ W, Below wr.heap.size wr W → Calls Try.prog 35 #[x] W (NewN W)) := Lib.hid fun W hW => (hcp W hW).mono fun e w' h => NewV.none (hyn ▸ h)
              have HYN := Lib.hid hyn
              clear hcp hyn
              rcases hfx with rfl | ⟨T, x, rfl⟩
              all_goals
                go_wp2_with (first
                  | (go_at_call 31; refine HB.out.mono ?_; rintro e w1 ⟨rfl, hb1⟩)
                  | (go_at_call 35; refine (HC.out _ hb1).mono ?_; rintro e w2 ⟨rfl, hb2⟩; have HW2 := Lib.hid (hb1.trans (hb2.mono hb1.size)))
                  | (go_at_call 34; refine (HI3.out .nilIface [] w2 HW2.out (HYN.out ▸ by simp [VAt])).mono ?_; rintro e w3 ⟨g3, cap3, rfl, hr3, hf3, hg3⟩; have HR3 := Lib.hid hr3; have HF3 := Lib.hid hf3; have HG3 := Lib.hid hg3; clear hr3 hf3 hg3))
                go_roundw
                case rel =>
                  obtain ⟨S3, hc3⟩ := HCN.out.ins hwk HW2.out (y := y) (v := .nilIface) (S1 := []) (HYN.out ▸ by simp [VAt]) (by simp) (by simp) hple HR3.out HF3.out HG3.out
                  refine ⟨k + 1, _, _, _, S3, by omega, by go_num, ?_, by rw [HSTEP.out, HINS.out]; exact hc3, ?_⟩
                  · rw [HSTEP.out, HINS.out, show (R.take p ++ (y, 1) :: R.drop p).length = R.length + 1 by simp; omega]
                  · exact HBK.out.trans ((HW2.out.mono hwk).trans (((Below.refl _ _).alloc (Nat.le_trans hwk HW2.out.size) _).trans (HF3.out.below _ (by have := HW2.out.size; simp; omega) (fun b hm => HCN.out.new b (by simp [hm])))))
                case measure => simp [intOf]; omega
            · have HC : Hid (∀ W, Below wr.heap.size wr W → Calls Try.prog 35 #[x] W (NewI W y)) := Lib.hid fun W hW => (hcp W hW).mono fun e w' h => NewV.iface hyn h
              clear hcp hyn
              rcases hfx with rfl | ⟨T, x, rfl⟩
              all_goals
                go_wp2_with (first
                  | (go_at_call 31; refine HB.out.mono ?_; rintro e w1 ⟨rfl, hb1⟩)
                  | (go_at_call 35; refine (HC.out _ hb1).mono ?_; rintro e w2 ⟨T2, u2, S2, rfl, hv2, hnd2, hge2, hb2⟩; have HW2 := Lib.hid (hb1.trans (hb2.mono hb1.size)); have HV2 := Lib.hid hv2; have HN2 := Lib.hid (And.intro hnd2 hge2); clear hv2 hnd2 hge2)
                  | (go_at_call 34; refine (HI3.out (.iface T2 u2) S2 w2 HW2.out HV2.out).mono ?_; rintro e w3 ⟨g3, cap3, rfl, hr3, hf3, hg3⟩; have HR3 := Lib.hid hr3; have HF3 := Lib.hid hf3; have HG3 := Lib.hid hg3; clear hr3 hf3 hg3))
                go_roundw
                case rel =>
                  obtain ⟨S3, hc3⟩ := HCN.out.ins hwk HW2.out HV2.out HN2.out.1 (fun b hm => Nat.le_trans hb1.size (HN2.out.2 b hm)) hple HR3.out HF3.out HG3.out
                  refine ⟨k + 1, _, _, _, S3, by omega, by go_num, ?_, by rw [HSTEP.out, HINS.out]; exact hc3, ?_⟩
                  · rw [HSTEP.out, HINS.out, show (R.take p ++ (y, 1) :: R.drop p).length = R.length + 1 by simp; omega]
                  · exact HBK.out.trans ((HW2.out.mono hwk).trans (((Below.refl _ _).alloc (Nat.le_trans hwk HW2.out.size) _).trans (HF3.out.below _ (by have := HW2.out.size; simp; omega) (fun b hm => HCN.out.new b (by simp [hm])))))
                case measure => simp [intOf]; omega
        · obtain rfl : k = l.length := by omega
          go_wp2
          go_ret2
          rw [List.take_of_length_le (Nat.le_refl _)] at hcn
          exact ⟨A, cap', us, S', by rw [List.take_of_length_le (Nat.le_refl _)]; rfl, hcn, HBK.out⟩
end Go.Proofs.Ythanmakakcmkeaa
