/- tenonlaw05.DigestGroups. -/
import Derived.Test.YthanmakakcmkeaaGroups
import Derived.Deep.RegionWith
namespace Go.Proofs.Ythanmakakcmkeaa
open Go.RowKit


set_option maxRecDepth 100000 in
set_option maxHeartbeats 8000000 in
theorem groups_good (l : List Tm) (rows : List (List Value)) (A : Option Addr) (cap0 : Nat) (w : World) (B : Nat) (hB : B ≤ w.heap.size) (hr : Rd w B 11 A l.length rows.flatten) (ht : TmsAt w B l rows) (hl : l.length ≤ 1048576) (he : errG (builds l) = 0) :
    Calls Try.prog 3 #[.slice A l.length cap0] w (fun e w' => e = .returned (.bool true) ∧ Below w.heap.size w w') := by
  have HR := Lib.hid hr
  have HT := Lib.hid ht
  have HE := Lib.hid he
  clear hr ht he
  go_enter Try.func3, Try.ntmps3
  go_wp2
  go_loopw [3, 4, 5] (fun v3 v4 v5 wr => ∃ (k g cap : Nat) (us : List Value) (S : List Nat) (h cap' : Nat) (us' : List Value) (S' : List Nat), k ≤ l.length ∧ v5 = .int .i64 k ∧ v3 = .slice (some ⟨g, 0, none⟩) k cap ∧ v4 = .slice (some ⟨h, 0, none⟩) k cap' ∧ Two w wr k (builds (l.take k)) g cap us S k (builds (l.reverse.take k)) h cap' us' S') (fun _ _ v5 _ => l.length - (intOf v5).toNat)
  case atStart => exact ⟨0, _, 0, [], [], _, 0, [], [], Nat.zero_le _, rfl, rfl, rfl, by simpa [builds] using Two.start w⟩
  case round =>
    obtain ⟨k, g, cap, us, S, h, cap', us', S', hk, rfl, rfl, rfl, htwo⟩ := hrel
    have HTW := Lib.hid htwo
    have hbl := htwo.below
    have hws := hbl.size
    have HBL := Lib.hid hbl
    clear htwo hbl
    have hk0 : (0 : Int) ≤ (k : Int) := Int.natCast_nonneg _
    by_cases hlt : k < l.length
    · have hk1 : (k : Int) < (l.length : Int) := by omega
      obtain ⟨p, hp⟩ : ∃ p, p = l.length - 1 - k := ⟨_, rfl⟩
      have hpl : p < l.length := by omega
      have hrv : builds (l.reverse.take (k + 1)) = builds (l.reverse.take k) ++ [build l[p]] := by subst hp; exact rev_take_succ hlt
      have hw1 : IntKind.i64.wrap ((l.length : Int) - 1) = (l.length : Int) - 1 := IntWalk.i64_in _ ⟨by omega, by omega⟩
      have hw2 : IntKind.i64.wrap ((l.length : Int) - 1 - (k : Int)) = (l.length : Int) - 1 - (k : Int) := IntWalk.i64_in _ ⟨by omega, by omega⟩
      obtain ⟨bA, off, rfl, hbA, _⟩ := HR.out.2 (by omega)
      obtain ⟨hrl, hget⟩ := TmsAt.get l HT.out
      obtain ⟨x, hx, htx⟩ := hget k l[k] (by simp [hlt])
      obtain ⟨y, hy, hty⟩ := hget p l[p] (by simp [hpl])
      have h11 := TmsAt.len l HT.out
      have HXC : Hid (∀ V, Below w.heap.size w V → V.rangeAt bA (off + k * 11) x) := Lib.hid fun V hV => flat_at (HR.out.below hV hB) h11 hrl k x hx
      have HYC : Hid (∀ V, Below w.heap.size w V → V.rangeAt bA (off + (l.length - 1 - k) * 11) y) := Lib.hid fun V hV => hp ▸ flat_at (HR.out.below hV hB) h11 hrl p y hy
      obtain ⟨x0, x1, x2, x3, x4, x5, x6, x7, x8, x9, x10, rfl⟩ := list11 (h11 x (List.mem_of_getElem? hx))
      obtain ⟨y0, y1, y2, y3, y4, y5, y6, y7, y8, y9, y10, rfl⟩ := list11 (h11 y (List.mem_of_getElem? hy))
      obtain ⟨hx0, hx1, hx2, hx3, hx4, hx5, hx6, hx7, hx8, hx9, hx10⟩ := range11 (HXC.out wr HBL.out)
      have HBX := Lib.hid (built l[k])
      have HBY := Lib.hid (built l[p])
      have HTX := Lib.hid htx
      have HTY := Lib.hid hty
      have HRV := Lib.hid hrv
      have hbAr : bA < wr.heap.size := by omega
      clear hx hy htx hty hget hrl h11 hrv hp
      by_cases hn1 : build l[k] = .nil
      · by_cases hn2 : build l[p] = .nil
        · have HIX : Hid (Calls Try.prog 7 #[.agg #[x0, x1, x2, x3, x4, x5, x6, x7, x8, x9, x10]] wr (NewN wr)) := Lib.hid ((HBX.out _ wr B (Nat.le_trans hB hws) (HTX.out.below HBL.out hB)).mono fun e w' h => NewV.none (hn1 ▸ h))
          have HIY : Hid (∀ V, Below w.heap.size w V → Calls Try.prog 7 #[.agg #[y0, y1, y2, y3, y4, y5, y6, y7, y8, y9, y10]] V (NewN V)) := Lib.hid fun V hV => ((HBY.out _ V B (Nat.le_trans hB hV.size) (HTY.out.below hV hB)).mono fun e w' h => NewV.none (hn2 ▸ h))
          go_wp2_with (first
            | (go_at_call_of 7 x0; refine HIX.out.mono ?_; rintro e w1 ⟨rfl, hb1⟩)
            | (at_builtin; refine wpList_push rfl (.tmp 25) (.tmp 31) 23 rfl 20 _ 1 16 Try.underlying23 any_info rfl (by omega) g cap k us (by rfl) ((HTW.out.r1.below hb1).alloc _) w1.heap.size 1 1 #[.nilIface] (by rfl) (by rfl) (Blk.new _ _ _) (by simp [Value.oneCell']) (by omega) (by unfold maxLen; omega) (by omega) ?_; intro g2 cap2 w2 hrow2 hf2 hg2; have HT2 := Lib.hid (HTW.out.step (x := .nil) (S1 := []) hb1 (by simp [VAt]) (by simp) hrow2 rfl hf2 hg2); obtain ⟨hy0, hy1, hy2, hy3, hy4, hy5, hy6, hy7, hy8, hy9, hy10⟩ := range11 (HYC.out w2 HT2.out.below); clear hrow2 hf2 hg2)
            | (go_at_call_of 7 y0; refine (HIY.out w2 HT2.out.below).mono ?_; rintro e w3 ⟨rfl, hb3⟩)
            | (at_builtin; refine wpList_push rfl (.tmp 33) (.tmp 43) 23 rfl 20 _ 1 16 Try.underlying23 any_info rfl (by omega) h cap' k us' (by rfl) ((HT2.out.r2.below hb3).alloc _) w3.heap.size 1 1 #[.nilIface] (by rfl) (by rfl) (Blk.new _ _ _) (by simp [Value.oneCell']) (by omega) (by unfold maxLen; omega) (by omega) ?_; intro h4 cap4 w4 hrow4 hf4 hg4; have HT4 := Lib.hid ((HT2.out.swap.step (x := .nil) (S1 := []) hb3 (by simp [VAt]) (by simp) hrow4 rfl hf4 hg4).swap); clear hrow4 hf4 hg4))
          go_roundw
          case rel =>
            refine ⟨k + 1, g2, cap2, us ++ [.nilIface], S ++ [], h4, cap4, us' ++ [.nilIface], S' ++ [], by omega, by go_num, rfl, rfl, ?_⟩
            rw [builds_take_succ hlt, HRV.out, hn1, hn2]
            exact HT4.out
          case measure => simp [intOf]; omega
        · have HIX : Hid (Calls Try.prog 7 #[.agg #[x0, x1, x2, x3, x4, x5, x6, x7, x8, x9, x10]] wr (NewN wr)) := Lib.hid ((HBX.out _ wr B (Nat.le_trans hB hws) (HTX.out.below HBL.out hB)).mono fun e w' h => NewV.none (hn1 ▸ h))
          have HIY : Hid (∀ V, Below w.heap.size w V → Calls Try.prog 7 #[.agg #[y0, y1, y2, y3, y4, y5, y6, y7, y8, y9, y10]] V (NewI V (build l[p]))) := Lib.hid fun V hV => ((HBY.out _ V B (Nat.le_trans hB hV.size) (HTY.out.below hV hB)).mono fun e w' h => NewV.iface hn2 h)
          go_wp2_with (first
            | (go_at_call_of 7 x0; refine HIX.out.mono ?_; rintro e w1 ⟨rfl, hb1⟩)
            | (at_builtin; refine wpList_push rfl (.tmp 25) (.tmp 31) 23 rfl 20 _ 1 16 Try.underlying23 any_info rfl (by omega) g cap k us (by rfl) ((HTW.out.r1.below hb1).alloc _) w1.heap.size 1 1 #[.nilIface] (by rfl) (by rfl) (Blk.new _ _ _) (by simp [Value.oneCell']) (by omega) (by unfold maxLen; omega) (by omega) ?_; intro g2 cap2 w2 hrow2 hf2 hg2; have HT2 := Lib.hid (HTW.out.step (x := .nil) (S1 := []) hb1 (by simp [VAt]) (by simp) hrow2 rfl hf2 hg2); obtain ⟨hy0, hy1, hy2, hy3, hy4, hy5, hy6, hy7, hy8, hy9, hy10⟩ := range11 (HYC.out w2 HT2.out.below); clear hrow2 hf2 hg2)
            | (go_at_call_of 7 y0; refine (HIY.out w2 HT2.out.below).mono ?_; rintro e w3 ⟨T2, u2, S3, rfl, hv3, _, hge3, hb3⟩)
            | (at_builtin; refine wpList_push rfl (.tmp 33) (.tmp 43) 23 rfl 20 _ 1 16 Try.underlying23 any_info rfl (by omega) h cap' k us' (by rfl) ((HT2.out.r2.below hb3).alloc _) w3.heap.size 1 1 #[.iface T2 u2] (by rfl) (by rfl) (Blk.new _ _ _) (by simp [Value.oneCell']) (by omega) (by unfold maxLen; omega) (by omega) ?_; intro h4 cap4 w4 hrow4 hf4 hg4; have HT4 := Lib.hid ((HT2.out.swap.step hb3 hv3 hge3 hrow4 rfl hf4 hg4).swap); clear hrow4 hf4 hg4))
          go_roundw
          case rel =>
            refine ⟨k + 1, g2, cap2, us ++ [.nilIface], S ++ [], h4, cap4, us' ++ [.iface T2 u2], S' ++ S3, by omega, by go_num, rfl, rfl, ?_⟩
            rw [builds_take_succ hlt, HRV.out, hn1]
            exact HT4.out
          case measure => simp [intOf]; omega
      · by_cases hn2 : build l[p] = .nil
        · have HIX : Hid (Calls Try.prog 7 #[.agg #[x0, x1, x2, x3, x4, x5, x6, x7, x8, x9, x10]] wr (NewI wr (build l[k]))) := Lib.hid ((HBX.out _ wr B (Nat.le_trans hB hws) (HTX.out.below HBL.out hB)).mono fun e w' h => NewV.iface hn1 h)
          have HIY : Hid (∀ V, Below w.heap.size w V → Calls Try.prog 7 #[.agg #[y0, y1, y2, y3, y4, y5, y6, y7, y8, y9, y10]] V (NewN V)) := Lib.hid fun V hV => ((HBY.out _ V B (Nat.le_trans hB hV.size) (HTY.out.below hV hB)).mono fun e w' h => NewV.none (hn2 ▸ h))
          go_wp2_with (first
            | (go_at_call_of 7 x0; refine HIX.out.mono ?_; rintro e w1 ⟨T, u, S1, rfl, hv1, _, hge1, hb1⟩)
            | (at_builtin; refine wpList_push rfl (.tmp 25) (.tmp 31) 23 rfl 20 _ 1 16 Try.underlying23 any_info rfl (by omega) g cap k us (by rfl) ((HTW.out.r1.below hb1).alloc _) w1.heap.size 1 1 #[.iface T u] (by rfl) (by rfl) (Blk.new _ _ _) (by simp [Value.oneCell']) (by omega) (by unfold maxLen; omega) (by omega) ?_; intro g2 cap2 w2 hrow2 hf2 hg2; have HT2 := Lib.hid (HTW.out.step hb1 hv1 hge1 hrow2 rfl hf2 hg2); obtain ⟨hy0, hy1, hy2, hy3, hy4, hy5, hy6, hy7, hy8, hy9, hy10⟩ := range11 (HYC.out w2 HT2.out.below); clear hrow2 hf2 hg2)
            | (go_at_call_of 7 y0; refine (HIY.out w2 HT2.out.below).mono ?_; rintro e w3 ⟨rfl, hb3⟩)
            | (at_builtin; refine wpList_push rfl (.tmp 33) (.tmp 43) 23 rfl 20 _ 1 16 Try.underlying23 any_info rfl (by omega) h cap' k us' (by rfl) ((HT2.out.r2.below hb3).alloc _) w3.heap.size 1 1 #[.nilIface] (by rfl) (by rfl) (Blk.new _ _ _) (by simp [Value.oneCell']) (by omega) (by unfold maxLen; omega) (by omega) ?_; intro h4 cap4 w4 hrow4 hf4 hg4; have HT4 := Lib.hid ((HT2.out.swap.step (x := .nil) (S1 := []) hb3 (by simp [VAt]) (by simp) hrow4 rfl hf4 hg4).swap); clear hrow4 hf4 hg4))
          go_roundw
          case rel =>
            refine ⟨k + 1, g2, cap2, us ++ [.iface T u], S ++ S1, h4, cap4, us' ++ [.nilIface], S' ++ [], by omega, by go_num, rfl, rfl, ?_⟩
            rw [builds_take_succ hlt, HRV.out, hn2]
            exact HT4.out
          case measure => simp [intOf]; omega
        · have HIX : Hid (Calls Try.prog 7 #[.agg #[x0, x1, x2, x3, x4, x5, x6, x7, x8, x9, x10]] wr (NewI wr (build l[k]))) := Lib.hid ((HBX.out _ wr B (Nat.le_trans hB hws) (HTX.out.below HBL.out hB)).mono fun e w' h => NewV.iface hn1 h)
          have HIY : Hid (∀ V, Below w.heap.size w V → Calls Try.prog 7 #[.agg #[y0, y1, y2, y3, y4, y5, y6, y7, y8, y9, y10]] V (NewI V (build l[p]))) := Lib.hid fun V hV => ((HBY.out _ V B (Nat.le_trans hB hV.size) (HTY.out.below hV hB)).mono fun e w' h => NewV.iface hn2 h)
          go_wp2_with (first
            | (go_at_call_of 7 x0; refine HIX.out.mono ?_; rintro e w1 ⟨T, u, S1, rfl, hv1, _, hge1, hb1⟩)
            | (at_builtin; refine wpList_push rfl (.tmp 25) (.tmp 31) 23 rfl 20 _ 1 16 Try.underlying23 any_info rfl (by omega) g cap k us (by rfl) ((HTW.out.r1.below hb1).alloc _) w1.heap.size 1 1 #[.iface T u] (by rfl) (by rfl) (Blk.new _ _ _) (by simp [Value.oneCell']) (by omega) (by unfold maxLen; omega) (by omega) ?_; intro g2 cap2 w2 hrow2 hf2 hg2; have HT2 := Lib.hid (HTW.out.step hb1 hv1 hge1 hrow2 rfl hf2 hg2); obtain ⟨hy0, hy1, hy2, hy3, hy4, hy5, hy6, hy7, hy8, hy9, hy10⟩ := range11 (HYC.out w2 HT2.out.below); clear hrow2 hf2 hg2)
            | (go_at_call_of 7 y0; refine (HIY.out w2 HT2.out.below).mono ?_; rintro e w3 ⟨T2, u2, S3, rfl, hv3, _, hge3, hb3⟩)
            | (at_builtin; refine wpList_push rfl (.tmp 33) (.tmp 43) 23 rfl 20 _ 1 16 Try.underlying23 any_info rfl (by omega) h cap' k us' (by rfl) ((HT2.out.r2.below hb3).alloc _) w3.heap.size 1 1 #[.iface T2 u2] (by rfl) (by rfl) (Blk.new _ _ _) (by simp [Value.oneCell']) (by omega) (by unfold maxLen; omega) (by omega) ?_; intro h4 cap4 w4 hrow4 hf4 hg4; have HT4 := Lib.hid ((HT2.out.swap.step hb3 hv3 hge3 hrow4 rfl hf4 hg4).swap); clear hrow4 hf4 hg4))
          go_roundw
          case rel =>
            refine ⟨k + 1, g2, cap2, us ++ [.iface T u], S ++ S1, h4, cap4, us' ++ [.iface T2 u2], S' ++ S3, by omega, by go_num, rfl, rfl, ?_⟩
            rw [builds_take_succ hlt, HRV.out]
            exact HT4.out
          case measure => simp [intOf]; omega
    · obtain rfl : k = l.length := by omega
      obtain ⟨w0, rfl⟩ : ∃ w0 : World, w0 = wr := ⟨_, rfl⟩
      have htwo := HTW.out
      rw [List.take_of_length_le (Nat.le_refl _), List.take_of_length_le (by simp), builds_rev] at htwo
      have hlr : (groupK cmpV (builds l).reverse).length = (groupK cT l).length := by rw [(groups_turned _).1, groups_len]
      have HC1 : Hid (Calls Try.prog 8 #[.slice (some ⟨g, 0, none⟩) l.length cap] w0 (fun e w' => ∃ A cap us S, e = .returned (.tuple #[.slice A (groupK cT l).length cap, .int .i64 0]) ∧ Cnts w0.heap.size w' (groupK cmpV (builds l)) A cap us S ∧ Below w0.heap.size w0 w')) := Lib.hid (by
        have := group_good (builds l) g cap us S w0 (by rw [builds_len]; exact htwo.r1) htwo.v1 (by rw [builds_len]; exact hl) HE.out
        rw [builds_len] at this
        exact this.mono fun e w' ⟨A, cap, us, S, he, hc, hb⟩ => ⟨A, cap, us, S, by rw [he, groups_len], hc, hb⟩)
      have HC2 : Hid (∀ V, Below w0.heap.size w0 V → Calls Try.prog 8 #[.slice (some ⟨h, 0, none⟩) l.length cap'] V (fun e w' => ∃ A cap us S, e = .returned (.tuple #[.slice A (groupK cT l).length cap, .int .i64 0]) ∧ Cnts V.heap.size w' (groupK cmpV (builds l).reverse) A cap us S ∧ Below V.heap.size V w')) := Lib.hid fun V hV => by
        have := group_good (builds l).reverse h cap' us' S' V (by rw [List.length_reverse, builds_len]; exact htwo.r2.below hV) (htwo.v2.below hV) (by rw [List.length_reverse, builds_len]; exact hl) ((errG_turned _).2 HE.out)
        rw [List.length_reverse, builds_len] at this
        exact this.mono fun e w' ⟨A, cap, us, S, he, hc, hb⟩ => ⟨A, cap, us, S, by rw [he, hlr], hc, hb⟩
      have HC3 : Hid (∀ V, Below w.heap.size w V → Calls Try.prog 9 #[.slice A l.length cap0] V (RGrouped V B l)) := Lib.hid fun V hV => rgroup_good l rows A cap0 V B (Nat.le_trans hB hV.size) (HR.out.below hV hB) (HT.out.below hV hB) hl HE.out
      have HATS := Lib.hid fun i => at_group (l := l) HE.out (i := i)
      have hNl : (groupK cT l).length ≤ l.length := groupK_len cT l
      have HSUM := Lib.hid (groupK_sum cT l)
      have HIN := Lib.hid htwo.r1
      have HINV := Lib.hid htwo.v1
      have HNEW := Lib.hid htwo.new
      clear htwo hlr
      obtain ⟨N, hN⟩ : ∃ N, N = (groupK cT l).length := ⟨_, rfl⟩
      rw [← hN] at HC1 HC2 hNl
      go_wp2_with (first
        | (go_at_call_of 8 g; refine HC1.out.mono ?_; rintro e w1 ⟨A1, cap1, us1, S1, rfl, hc1, hb1⟩)
        | (go_at_call_of 8 h; refine (HC2.out w1 hb1).mono ?_; rintro e w2 ⟨A2, cap2, us2, S2, rfl, hc2, hb2⟩)
        | (go_at_call 9; refine (HC3.out w2 ((HBL.out.trans (hb1.mono hws)).trans (hb2.mono (Nat.le_trans hws hb1.size)))).mono ?_; rintro e w3 ⟨g3, cap3, rows3, rfl, hr3, ht3, hg3, hb3⟩; rw [← hN] at hr3 ⊢))
      have hs1 := hb1.size
      have hs2 := hb2.size
      have hs3 := hb3.size
      have HW3 := Lib.hid (((HBL.out.trans (hb1.mono hws)).trans (hb2.mono (Nat.le_trans hws hb1.size))).trans (hb3.mono (Nat.le_trans (Nat.le_trans hws hb1.size) hb2.size)))
      have HA := Lib.hid ((hc1.below hb2).below hb3)
      have HBb := Lib.hid (hc2.below hb3)
      have HWANT := Lib.hid hr3
      have HWT := Lib.hid ht3
      have HS1 : Hid (∀ b ∈ S1, w0.heap.size ≤ b ∧ b < w1.heap.size) := Lib.hid fun b hb => ⟨hc1.new b (by simp [hb]), VsAt.lt _ hc1.vals b hb⟩
      have HS2 : Hid (∀ b ∈ ownL A2 ++ S2, w1.heap.size ≤ b) := Lib.hid hc2.new
      have HIN3 := Lib.hid (((HIN.out.below hb1).below hb2).below hb3)
      have HINV3 := Lib.hid (((HINV.out.below hb1).below hb2).below hb3)
      have HSW : Hid (∀ b ∈ g :: S, b < w0.heap.size) := Lib.hid fun b hb => by rcases List.mem_cons.1 hb with rfl | hb; exact HIN.out.lt; exact VsAt.lt _ HINV.out b hb
      clear hb1 hb2 hb3 hc1 hc2 hr3 ht3 HC1 HC2 HC3 HIN HINV
      go_loopw [12, 13] (fun v12 v13 wq => ∃ (i : Nat) (s : Int), i ≤ N ∧ v13 = .int .i64 i ∧ v12 = .int .i64 s ∧ s = (((groupK cT l).map (·.2)).take i).sum ∧ Left wq ((groupK cmpV (builds l)).map (·.1)) us1 S1 i ∧ Fr S1 w3 wq) (fun _ v13 _ => N - (intOf v13).toNat)
      case atStart => exact ⟨0, 0, Nat.zero_le _, rfl, rfl, by simp, ⟨[], S1, rfl, by simpa using HA.out.vals⟩, Fr.refl _ _⟩
      case round =>
        obtain ⟨i, s, hi, rfl, rfl, hs, hleft, hfr⟩ := hrel
        obtain ⟨wo, rfl⟩ : ∃ wo : World, wo = wr := ⟨_, rfl⟩
        have HLEFT := Lib.hid hleft
        have HFR := Lib.hid hfr
        have HS := Lib.hid hs
        have hs4 := hfr.size
        have HBO : Hid (Below w.heap.size w3 wo) := Lib.hid (hfr.below _ (by omega) fun b hb => by have := HS1.out b hb; omega)
        have HBW := Lib.hid (HW3.out.trans HBO.out)
        clear hleft hfr hs
        have hi0 : (0 : Int) ≤ (i : Int) := Int.natCast_nonneg _
        by_cases hlt : i < N
        · have hi1 : (i : Int) < (N : Int) := by omega
          obtain ⟨t, n, x, hat⟩ := HATS.out i (hN ▸ hlt)
          obtain ⟨ga, va, _, rfl, hva, _, _, hga, ha0, ha1⟩ := HA.out.at hat.a
          obtain ⟨gb, vb, Tb, rfl, hvb, hVB, hTb, hgb, hb0, hb1⟩ := HBb.out.at hat.b
          have hnd := List.nodup_append.1 HA.out.nodup
          have hgaS : ga ∉ S1 := fun hm => hnd.2.2 ga (by simp [ownL]) ga hm rfl
          obtain ⟨va2, Ta, hva2, hVA, hTn, hTs, hnext⟩ := HLEFT.out.next hnd.2.1 (by rw [List.length_map, groups_len, ← hN]; exact hlt)
          obtain rfl : va = va2 := by rw [hva] at hva2; simpa using hva2
          have hkey : ((groupK cmpV (builds l)).map (·.1))[i]'(by rw [List.length_map, groups_len, ← hN]; exact hlt) = build t := by
            rw [List.getElem_map, (List.getElem?_eq_some_iff.1 hat.a).2]
          rw [hkey] at hVA
          have hgbS : gb ∉ S1 := fun hm => by have := HS1.out gb hm; have := HS2.out gb (by simp [ownL]); omega
          have hg3S : g3 ∉ S1 := fun hm => by have := HS1.out g3 hm; omega
          obtain ⟨hrl3, hget3⟩ := TmsAt.get _ HWT.out
          obtain ⟨q, hq, htq⟩ := hget3 i t (by simp [hat.want])
          have h113 := TmsAt.len _ HWT.out
          obtain ⟨hrc, hrn⟩ := rc_get (rs := rows3) (ns := (groupK cT l).map (·.2)) (k := i) (n := n) (by simpa using hrl3) h113 hq (by simp [hat.want])
          obtain ⟨z0, z1, z2, z3, z4, z5, z6, z7, z8, z9, z10, rfl⟩ := list11 (h113 q (List.mem_of_getElem? hq))
          have hzr : wo.rangeAt g3 (i * 12) [z0, z1, z2, z3, z4, z5, z6, z7, z8, z9, z10] := fun j v hj => by
            have hj11 : j < 11 := (List.getElem?_eq_some_iff.1 hj).1
            exact HFR.out.cell ((HWANT.out.cell (i * 12 + j) (by omega)).trans (hrc j v hj)) hg3S
          have hz11 : wo.cell? ⟨g3, i * 12 + 11, none⟩ = some (.int .i64 n) := HFR.out.cell ((HWANT.out.cell (i * 12 + 11) (by omega)).trans hrn) hg3S
          obtain ⟨hz0, hz1, hz2, hz3, hz4, hz5, hz6, hz7, hz8, hz9, hz10⟩ := range11 hzr
          have ha0' := HFR.out.cell ha0 hgaS
          have ha1' := HFR.out.cell ha1 hgaS
          have hb0' := HFR.out.cell hb0 hgbS
          have hb1' := HFR.out.cell hb1 hgbS
          have hVB' := hVB.fr HFR.out (fun b hb hm => by have := HS1.out b hm; have := HS2.out b (by simp [hTb b hb]); omega)
          have htq' := htq.below HBO.out hB
          have hgal : ga < wo.heap.size := by omega
          have hgbl : gb < wo.heap.size := by omega
          have hg3l : g3 < wo.heap.size := by have := HWANT.out.lt; omega
          have hBo : B ≤ wo.heap.size := Nat.le_trans hB HBW.out.size
          have HI1 : Hid (∀ V, Below wo.heap.size wo V → Calls Try.prog 10 #[va, .agg #[z0, z1, z2, z3, z4, z5, z6, z7, z8, z9, z10]] V (Tells true V)) := Lib.hid fun V hV => is_true (build t) t va Ta z0 z1 z2 z3 z4 z5 z6 z7 z8 z9 z10 V B (Nat.le_trans hBo hV.size) (hVA.below hV) (htq'.below hV hBo) hat.good (cmpV_refl _)
          have HI2 : Hid (∀ V, Below wo.heap.size wo V → Calls Try.prog 10 #[vb, .agg #[z0, z1, z2, z3, z4, z5, z6, z7, z8, z9, z10]] V (Tells true V)) := Lib.hid fun V hV => is_true x t vb Tb z0 z1 z2 z3 z4 z5 z6 z7 z8 z9 z10 V B (Nat.le_trans hBo hV.size) (hVB'.below hV) (htq'.below hV hBo) hat.goodx hat.same
          have HSP : Hid (∀ V, Below wo.heap.size wo V → Calls Try.prog 11 #[va] V (Spoiled Ta V)) := Lib.hid fun V hV => spoil (build t) va Ta V (hVA.below hV) hTn
          have HNEXT := Lib.hid hnext
          have HTS := Lib.hid hTs
          have HSN : Hid (s + n = (((groupK cT l).map (·.2)).take (i + 1)).sum) := Lib.hid (by rw [hat.next, HS.out])
          have hsw : IntKind.i64.wrap (s + n) = s + n := IntWalk.i64_in _ ⟨by have := hat.lo; have := hat.one; have := HS.out; omega, by have := hat.hi; have := HS.out; omega⟩
          clear hat hva hvb hva2 hVA hVB hTb hb0 hb1 ha0 ha1 hnd hTn hTs hnext hkey hrl3 hget3 hq htq h113 hrc hrn hzr hVB' htq'
          go_wp2
          refine region_seq 52 (Kept wo.heap.size wo) (by kernel_rfl) (by kernel_rfl) (Kept.refl _) (fun hHeld => ?_)
          repeat (refine seq_take_free (v := ?_) (by kernel_rfl) rfl (fun _ _ _ h => h) hHeld ?_ ?_; rotate_left; (focus (((intro w hSw; obtain ⟨hk1, hk2⟩ := Kept.cells hSw; clear hSw; go_simp) <;> with_reducible rfl); done)); (try simp only [Act.put, List.setIfInBounds_toArray, List.set_cons_zero, List.set_cons_succ]))
          refine seq_call_free (by kernel_rfl) rfl (fun K hK => ?_)
          go_simp
          (refine (HI1.out _ hHeld).mono ?_; rintro e v1 ⟨rfl, hb1⟩)
          refine hK.out _ _ ?_ (fun hHeld2 => ?_)
          · exact hHeld.step hb1 (Nat.le_refl _)
          clear hK K hHeld
          have hHeld := hHeld2
          clear hHeld2
          (try simp only [Act.put, List.setIfInBounds_toArray, List.set_cons_zero, List.set_cons_succ])
          repeat (first | (refine seq_take_free (v := ?_) (by kernel_rfl) rfl (fun _ _ _ h => h) hHeld ?_ ?_; rotate_left; (focus (((intro w hSw; obtain ⟨hk1, hk2⟩ := Kept.cells hSw; clear hSw; go_simp) <;> with_reducible rfl); done)); (try simp only [Act.put, List.setIfInBounds_toArray, List.set_cons_zero, List.set_cons_succ])) | (refine seq_take_on (v := ?_) (by kernel_rfl) rfl rfl rfl (fun _ _ _ h => h) hHeld ?_ ?_; rotate_left; (focus (((intro w hSw; obtain ⟨hk1, hk2⟩ := Kept.cells hSw; clear hSw; go_simp) <;> with_reducible rfl); done)); (try simp only [Act.put, List.setIfInBounds_toArray, List.set_cons_zero, List.set_cons_succ])) | (refine seq_off (by kernel_rfl) rfl rfl rfl (fun _ _ _ h => h) hHeld ?_; (try simp only [Act.put, List.setIfInBounds_toArray, List.set_cons_zero, List.set_cons_succ])))
          refine seq_call_on (by kernel_rfl) rfl rfl rfl (fun K hK => ?_)
          go_simp
          (refine (HI2.out _ hHeld).mono ?_; rintro e v2 ⟨rfl, hb2⟩)
          refine hK.out _ _ ?_ (fun hHeld2 => ?_)
          · exact hHeld.step hb2 (Nat.le_refl _)
          clear hK K hHeld
          have hHeld := hHeld2
          clear hHeld2
          (try simp only [Act.put, List.setIfInBounds_toArray, List.set_cons_zero, List.set_cons_succ])
          repeat (first | (refine seq_take_free (v := ?_) (by kernel_rfl) rfl (fun _ _ _ h => h) hHeld ?_ ?_; rotate_left; (focus (((intro w hSw; obtain ⟨hk1, hk2⟩ := Kept.cells hSw; clear hSw; go_simp) <;> with_reducible rfl); done)); (try simp only [Act.put, List.setIfInBounds_toArray, List.set_cons_zero, List.set_cons_succ])) | (refine seq_take_on (v := ?_) (by kernel_rfl) rfl rfl rfl (fun _ _ _ h => h) hHeld ?_ ?_; rotate_left; (focus (((intro w hSw; obtain ⟨hk1, hk2⟩ := Kept.cells hSw; clear hSw; go_simp) <;> with_reducible rfl); done)); (try simp only [Act.put, List.setIfInBounds_toArray, List.set_cons_zero, List.set_cons_succ])) | (refine seq_off (by kernel_rfl) rfl rfl rfl (fun _ _ _ h => h) hHeld ?_; (try simp only [Act.put, List.setIfInBounds_toArray, List.set_cons_zero, List.set_cons_succ])))
          refine seq_done ?_
          have HB5 := Lib.hid hHeld
          have hs5 := hHeld.size
          clear hHeld hz0 hz1 hz2 hz3 hz4 hz5 hz6 hz7 hz8 hz9 hz10 hb0' hb1' hz11
          have hc0 : v2.cell? ⟨ga, i * 2, none⟩ = some va := (HB5.out.cell (p := ⟨ga, i * 2, none⟩) hgal).trans ha0'
          have hc1 : v2.cell? ⟨ga, i * 2 + 1, none⟩ = some (.int .i64 n) := (HB5.out.cell (p := ⟨ga, i * 2 + 1, none⟩) hgal).trans ha1'
          have hgav : ga < v2.heap.size := by omega
          go_wp2_with (go_at_call 11; refine (HSP.out _ HB5.out).mono ?_; rintro e v3 ⟨rfl, hf6⟩)
          go_roundw
          case rel =>
            have hf7 := (Fr.of_below HB5.out Ta).trans hf6
            exact ⟨i + 1, s + n, by omega, by go_num, rfl, HSN.out, HNEXT.out Ta v3 hf7 (fun b hb => .inl hb), HFR.out.trans2 hf7 (fun b hb => .inl (HTS.out b hb))⟩
          case measure => simp [intOf]; omega
        · obtain rfl : i = N := by omega
          have hsl : s = (l.length : Int) := by rw [HS.out, List.take_of_length_le (by simp; omega)]; exact HSUM.out
          clear HS
          subst hsl
          subst hN
          have hgS : g ∉ S1 := fun hm => by have := HS1.out g hm; have := HSW.out g (by simp); omega
          have HINO := Lib.hid (HIN3.out.fr HFR.out hgS)
          have HINVO := Lib.hid (HINV3.out.fr HFR.out (fun b hb hm => by have := HS1.out b hm; have := HSW.out b (by simp [hb]); omega))
          have hgo : g < wo.heap.size := HINO.out.lt
          go_wp2
          go_loopw [14] (fun v14 wq => ∃ k : Nat, k ≤ l.length ∧ v14 = .int .i64 k ∧ Below wo.heap.size wo wq) (fun v14 _ => l.length - (intOf v14).toNat)
          case atStart => exact ⟨0, Nat.zero_le _, rfl, Below.refl _ _⟩
          case round =>
            obtain ⟨k, hk, rfl, hbz⟩ := hrel
            have HBZ := Lib.hid hbz
            have hsz := hbz.size
            clear hbz
            have hk0 : (0 : Int) ≤ (k : Int) := Int.natCast_nonneg _
            have hwo := HBW.out.size
            have HBZW := Lib.hid (HBW.out.trans (HBZ.out.mono hwo))
            by_cases hlt : k < l.length
            · have hk1 : (k : Int) < (l.length : Int) := by omega
              obtain ⟨bA, off, rfl, hbA, _⟩ := HR.out.2 (by omega)
              obtain ⟨hrl, hget⟩ := TmsAt.get l HT.out
              obtain ⟨y, hy, hty⟩ := hget k l[k] (by simp [hlt])
              have h11 := TmsAt.len l HT.out
              obtain ⟨y0, y1, y2, y3, y4, y5, y6, y7, y8, y9, y10, hye⟩ := list11 (h11 y (List.mem_of_getElem? hy))
              subst hye
              obtain ⟨hy0, hy1, hy2, hy3, hy4, hy5, hy6, hy7, hy8, hy9, hy10⟩ := range11 (flat_at (HR.out.below HBZW.out hB) h11 hrl k _ hy)
              obtain ⟨u, Tu, hu, hVU, _⟩ := VsAt.get _ HINVO.out k (build l[k]) (by rw [builds_map]; simp [hlt])
              have hc0 : wr.cell? ⟨g, k, none⟩ = some u := (HBZ.out.cell (p := ⟨g, k, none⟩) hgo).trans (by rw [HINO.out.cell k (by omega), hu])
              have hgr : g < wr.heap.size := by omega
              have hbAr : bA < wr.heap.size := by omega
              have HI3 : Hid (∀ V, Below wr.heap.size wr V → Calls Try.prog 10 #[u, .agg #[y0, y1, y2, y3, y4, y5, y6, y7, y8, y9, y10]] V (Tells true V)) := Lib.hid fun V hV => is_true (build l[k]) l[k] u Tu y0 y1 y2 y3 y4 y5 y6 y7 y8 y9 y10 V B (by have := hV.size; omega) ((hVU.below HBZ.out).below hV) ((hty.below HBZW.out hB).below hV (by omega)) (errG_good HE.out _ (by rw [builds_map]; exact List.mem_map_of_mem (List.getElem_mem hlt))) (cmpV_refl _)
              clear hrl hget hy hty h11 hu hVU
              go_wp2
              refine region_seq 14 (Kept wr.heap.size wr) (by kernel_rfl) (by kernel_rfl) (Kept.refl _) (fun hHeld => ?_)
              repeat (first | (refine seq_take_free (v := ?_) (by kernel_rfl) rfl (fun _ _ _ h => h) hHeld ?_ ?_; rotate_left; (focus (((intro w hSw; obtain ⟨hk1, hk2⟩ := Kept.cells hSw; clear hSw; go_simp) <;> with_reducible rfl); done)); (try simp only [Act.put, List.setIfInBounds_toArray, List.set_cons_zero, List.set_cons_succ])) | (refine seq_take_on (v := ?_) (by kernel_rfl) rfl rfl rfl (fun _ _ _ h => h) hHeld ?_ ?_; rotate_left; (focus (((intro w hSw; obtain ⟨hk1, hk2⟩ := Kept.cells hSw; clear hSw; go_simp) <;> with_reducible rfl); done)); (try simp only [Act.put, List.setIfInBounds_toArray, List.set_cons_zero, List.set_cons_succ])) | (refine seq_off (by kernel_rfl) rfl rfl rfl (fun _ _ _ h => h) hHeld ?_; (try simp only [Act.put, List.setIfInBounds_toArray, List.set_cons_zero, List.set_cons_succ])))
              refine seq_call_on (by kernel_rfl) rfl rfl rfl (fun K hK => ?_)
              go_simp
              (refine (HI3.out _ hHeld).mono ?_; rintro e v1 ⟨rfl, hb1⟩)
              refine hK.out _ _ ?_ (fun hHeld2 => ?_)
              · exact hHeld.step hb1 (Nat.le_refl _)
              clear hK K hHeld
              have hHeld := hHeld2
              clear hHeld2
              (try simp only [Act.put, List.setIfInBounds_toArray, List.set_cons_zero, List.set_cons_succ])
              repeat (first | (refine seq_take_free (v := ?_) (by kernel_rfl) rfl (fun _ _ _ h => h) hHeld ?_ ?_; rotate_left; (focus (((intro w hSw; obtain ⟨hk1, hk2⟩ := Kept.cells hSw; clear hSw; go_simp) <;> with_reducible rfl); done)); (try simp only [Act.put, List.setIfInBounds_toArray, List.set_cons_zero, List.set_cons_succ])) | (refine seq_take_on (v := ?_) (by kernel_rfl) rfl rfl rfl (fun _ _ _ h => h) hHeld ?_ ?_; rotate_left; (focus (((intro w hSw; obtain ⟨hk1, hk2⟩ := Kept.cells hSw; clear hSw; go_simp) <;> with_reducible rfl); done)); (try simp only [Act.put, List.setIfInBounds_toArray, List.set_cons_zero, List.set_cons_succ])) | (refine seq_off (by kernel_rfl) rfl rfl rfl (fun _ _ _ h => h) hHeld ?_; (try simp only [Act.put, List.setIfInBounds_toArray, List.set_cons_zero, List.set_cons_succ])))
              refine seq_done ?_
              go_wp2
              go_roundw
              case rel => exact ⟨k + 1, by omega, by go_num, HBZ.out.trans (hHeld.mono hsz)⟩
              case measure => simp [intOf]; omega
            · obtain rfl : k = l.length := by omega
              have hd1 : decide ((l.length : Int) < (l.length : Int)) = false := by simp
              have HONE := Lib.hid (one_any wr)
              go_wp2_with (go_at_call 8; refine HONE.out.mono ?_; rintro e w5 ⟨g5, cap5, rfl, hc5, hb5⟩)
              go_ret
              exact ⟨rfl, HBZW.out.trans (hb5.mono HBZW.out.size)⟩

theorem groups_any (l : List Tm) (rows : List (List Value)) (A : Option Addr) (cap0 : Nat) (w : World) (B : Nat) (hB : B ≤ w.heap.size) (hr : Rd w B 11 A l.length rows.flatten) (ht : TmsAt w B l rows) (hl : l.length ≤ 1048576) :
    Calls Try.prog 3 #[.slice A l.length cap0] w (fun e w' => e = .returned (.bool true) ∧ Below w.heap.size w w') := by
  by_cases he : errG (builds l) = 0
  · exact groups_good l rows A cap0 w B hB hr ht hl he
  · exact groups_bad l rows A cap0 w B hB hr ht hl he
end Go.Proofs.Ythanmakakcmkeaa
