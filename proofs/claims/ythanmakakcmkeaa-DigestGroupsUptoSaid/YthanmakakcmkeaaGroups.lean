/- tenonlaw05.DigestGroups. -/
import Derived.Test.YthanmakakcmkeaaTurn
import Derived.Deep.RegionWith
namespace Go.Proofs.Ythanmakakcmkeaa
open Go.RowKit

set_option maxRecDepth 100000 in
set_option maxHeartbeats 4000000 in
theorem groups_bad (l : List Tm) (rows : List (List Value)) (A : Option Addr) (cap0 : Nat) (w : World) (B : Nat) (hB : B ≤ w.heap.size) (hr : Rd w B 11 A l.length rows.flatten) (ht : TmsAt w B l rows) (hl : l.length ≤ 1048576) (he : errG (builds l) ≠ 0) :
    Calls Try.prog 3 #[.slice A l.length cap0] w (fun e w' => e = .returned (.bool true) ∧ Below w.heap.size w w') := by
  have HR := Lib.hid hr
  have HT := Lib.hid ht
  have HE := Lib.hid he
  clear hr ht he
  go_enter Try.func3, Try.ntmps3
  go_wp2
  go_loopw [3, 4, 5] (fun v3 v4 v5 wr => ∃ (k g cap : Nat) (us : List Value) (S : List Nat) (h cap' : Nat) (us' : List Value) (S' : List Nat), k ≤ l.length ∧ v5 = .int .i64 k ∧ v3 = .slice (some ⟨g, 0, none⟩) k cap ∧ v4 = .slice (some ⟨h, 0, none⟩) k cap' ∧ Two w wr k (builds (l.take k)) g cap us S k (builds (l.reverse.take k)) h cap' us' S') (fun _ _ v5 _ => l.length - (intOf v5).toNat)
  case atStart => exact ⟨0, _, 0, [], [], _, 0, [], [], Nat.zero_le _, rfl, rfl, rfl, by simpa [builds] using Two.start w⟩
  case round =>
    obtain ⟨k, g, cap, us, S, h, cap', us', S', hk, rfl, rfl, rfl, htwo⟩ := hrel
    have HTW := Lib.hid htwo
    have hbl := htwo.below
    have hws := hbl.size
    have HBL := Lib.hid hbl
    clear htwo hbl
    have hk0 : (0 : Int) ≤ (k : Int) := Int.natCast_nonneg _
    by_cases hlt : k < l.length
    · have hk1 : (k : Int) < (l.length : Int) := by omega
      obtain ⟨p, hp⟩ : ∃ p, p = l.length - 1 - k := ⟨_, rfl⟩
      have hpl : p < l.length := by omega
      have hrv : builds (l.reverse.take (k + 1)) = builds (l.reverse.take k) ++ [build l[p]] := by subst hp; exact rev_take_succ hlt
      have hw1 : IntKind.i64.wrap ((l.length : Int) - 1) = (l.length : Int) - 1 := IntWalk.i64_in _ ⟨by omega, by omega⟩
      have hw2 : IntKind.i64.wrap ((l.length : Int) - 1 - (k : Int)) = (l.length : Int) - 1 - (k : Int) := IntWalk.i64_in _ ⟨by omega, by omega⟩
      obtain ⟨bA, off, rfl, hbA, _⟩ := HR.out.2 (by omega)
      obtain ⟨hrl, hget⟩ := TmsAt.get l HT.out
      obtain ⟨x, hx, htx⟩ := hget k l[k] (by simp [hlt])
      obtain ⟨y, hy, hty⟩ := hget p l[p] (by simp [hpl])
      have h11 := TmsAt.len l HT.out
      have HXC : Hid (∀ V, Below w.heap.size w V → V.rangeAt bA (off + k * 11) x) := Lib.hid fun V hV => flat_at (HR.out.below hV hB) h11 hrl k x hx
      have HYC : Hid (∀ V, Below w.heap.size w V → V.rangeAt bA (off + (l.length - 1 - k) * 11) y) := Lib.hid fun V hV => hp ▸ flat_at (HR.out.below hV hB) h11 hrl p y hy
      obtain ⟨x0, x1, x2, x3, x4, x5, x6, x7, x8, x9, x10, rfl⟩ := list11 (h11 x (List.mem_of_getElem? hx))
      obtain ⟨y0, y1, y2, y3, y4, y5, y6, y7, y8, y9, y10, rfl⟩ := list11 (h11 y (List.mem_of_getElem? hy))
      obtain ⟨hx0, hx1, hx2, hx3, hx4, hx5, hx6, hx7, hx8, hx9, hx10⟩ := range11 (HXC.out wr HBL.out)
      have HBX := Lib.hid (built l[k])
      have HBY := Lib.hid (built l[p])
      have HTX := Lib.hid htx
      have HTY := Lib.hid hty
      have HRV := Lib.hid hrv
      have hbAr : bA < wr.heap.size := by omega
      clear hx hy htx hty hget hrl h11 hrv hp
      by_cases hn1 : build l[k] = .nil
      · by_cases hn2 : build l[p] = .nil
        · have HIX : Hid (Calls Try.prog 7 #[.agg #[x0, x1, x2, x3, x4, x5, x6, x7, x8, x9, x10]] wr (NewN wr)) := Lib.hid ((HBX.out _ wr B (Nat.le_trans hB hws) (HTX.out.below HBL.out hB)).mono fun e w' h => NewV.none (hn1 ▸ h))
          have HIY : Hid (∀ V, Below w.heap.size w V → Calls Try.prog 7 #[.agg #[y0, y1, y2, y3, y4, y5, y6, y7, y8, y9, y10]] V (NewN V)) := Lib.hid fun V hV => ((HBY.out _ V B (Nat.le_trans hB hV.size) (HTY.out.below hV hB)).mono fun e w' h => NewV.none (hn2 ▸ h))
          go_wp2_with (first
            | (go_at_call_of 7 x0; refine HIX.out.mono ?_; rintro e w1 ⟨rfl, hb1⟩)
            | (at_builtin; refine wpList_push rfl (.tmp 25) (.tmp 31) 23 rfl 20 _ 1 16 Try.underlying23 any_info rfl (by omega) g cap k us (by rfl) ((HTW.out.r1.below hb1).alloc _) w1.heap.size 1 1 #[.nilIface] (by rfl) (by rfl) (Blk.new _ _ _) (by simp [Value.oneCell']) (by omega) (by unfold maxLen; omega) (by omega) ?_; intro g2 cap2 w2 hrow2 hf2 hg2; have HT2 := Lib.hid (HTW.out.step (x := .nil) (S1 := []) hb1 (by simp [VAt]) (by simp) hrow2 rfl hf2 hg2); obtain ⟨hy0, hy1, hy2, hy3, hy4, hy5, hy6, hy7, hy8, hy9, hy10⟩ := range11 (HYC.out w2 HT2.out.below); clear hrow2 hf2 hg2)
            | (go_at_call_of 7 y0; refine (HIY.out w2 HT2.out.below).mono ?_; rintro e w3 ⟨rfl, hb3⟩)
            | (at_builtin; refine wpList_push rfl (.tmp 33) (.tmp 43) 23 rfl 20 _ 1 16 Try.underlying23 any_info rfl (by omega) h cap' k us' (by rfl) ((HT2.out.r2.below hb3).alloc _) w3.heap.size 1 1 #[.nilIface] (by rfl) (by rfl) (Blk.new _ _ _) (by simp [Value.oneCell']) (by omega) (by unfold maxLen; omega) (by omega) ?_; intro h4 cap4 w4 hrow4 hf4 hg4; have HT4 := Lib.hid ((HT2.out.swap.step (x := .nil) (S1 := []) hb3 (by simp [VAt]) (by simp) hrow4 rfl hf4 hg4).swap); clear hrow4 hf4 hg4))
          go_roundw
          case rel =>
            refine ⟨k + 1, g2, cap2, us ++ [.nilIface], S ++ [], h4, cap4, us' ++ [.nilIface], S' ++ [], by omega, by go_num, rfl, rfl, ?_⟩
            rw [builds_take_succ hlt, HRV.out, hn1, hn2]
            exact HT4.out
          case measure => simp [intOf]; omega
        · have HIX : Hid (Calls Try.prog 7 #[.agg #[x0, x1, x2, x3, x4, x5, x6, x7, x8, x9, x10]] wr (NewN wr)) := Lib.hid ((HBX.out _ wr B (Nat.le_trans hB hws) (HTX.out.below HBL.out hB)).mono fun e w' h => NewV.none (hn1 ▸ h))
          have HIY : Hid (∀ V, Below w.heap.size w V → Calls Try.prog 7 #[.agg #[y0, y1, y2, y3, y4, y5, y6, y7, y8, y9, y10]] V (NewI V (build l[p]))) := Lib.hid fun V hV => ((HBY.out _ V B (Nat.le_trans hB hV.size) (HTY.out.below hV hB)).mono fun e w' h => NewV.iface hn2 h)
          go_wp2_with (first
            | (go_at_call_of 7 x0; refine HIX.out.mono ?_; rintro e w1 ⟨rfl, hb1⟩)
            | (at_builtin; refine wpList_push rfl (.tmp 25) (.tmp 31) 23 rfl 20 _ 1 16 Try.underlying23 any_info rfl (by omega) g cap k us (by rfl) ((HTW.out.r1.below hb1).alloc _) w1.heap.size 1 1 #[.nilIface] (by rfl) (by rfl) (Blk.new _ _ _) (by simp [Value.oneCell']) (by omega) (by unfold maxLen; omega) (by omega) ?_; intro g2 cap2 w2 hrow2 hf2 hg2; have HT2 := Lib.hid (HTW.out.step (x := .nil) (S1 := []) hb1 (by simp [VAt]) (by simp) hrow2 rfl hf2 hg2); obtain ⟨hy0, hy1, hy2, hy3, hy4, hy5, hy6, hy7, hy8, hy9, hy10⟩ := range11 (HYC.out w2 HT2.out.below); clear hrow2 hf2 hg2)
            | (go_at_call_of 7 y0; refine (HIY.out w2 HT2.out.below).mono ?_; rintro e w3 ⟨T2, u2, S3, rfl, hv3, _, hge3, hb3⟩)
            | (at_builtin; refine wpList_push rfl (.tmp 33) (.tmp 43) 23 rfl 20 _ 1 16 Try.underlying23 any_info rfl (by omega) h cap' k us' (by rfl) ((HT2.out.r2.below hb3).alloc _) w3.heap.size 1 1 #[.iface T2 u2] (by rfl) (by rfl) (Blk.new _ _ _) (by simp [Value.oneCell']) (by omega) (by unfold maxLen; omega) (by omega) ?_; intro h4 cap4 w4 hrow4 hf4 hg4; have HT4 := Lib.hid ((HT2.out.swap.step hb3 hv3 hge3 hrow4 rfl hf4 hg4).swap); clear hrow4 hf4 hg4))
          go_roundw
          case rel =>
            refine ⟨k + 1, g2, cap2, us ++ [.nilIface], S ++ [], h4, cap4, us' ++ [.iface T2 u2], S' ++ S3, by omega, by go_num, rfl, rfl, ?_⟩
            rw [builds_take_succ hlt, HRV.out, hn1]
            exact HT4.out
          case measure => simp [intOf]; omega
      · by_cases hn2 : build l[p] = .nil
        · have HIX : Hid (Calls Try.prog 7 #[.agg #[x0, x1, x2, x3, x4, x5, x6, x7, x8, x9, x10]] wr (NewI wr (build l[k]))) := Lib.hid ((HBX.out _ wr B (Nat.le_trans hB hws) (HTX.out.below HBL.out hB)).mono fun e w' h => NewV.iface hn1 h)
          have HIY : Hid (∀ V, Below w.heap.size w V → Calls Try.prog 7 #[.agg #[y0, y1, y2, y3, y4, y5, y6, y7, y8, y9, y10]] V (NewN V)) := Lib.hid fun V hV => ((HBY.out _ V B (Nat.le_trans hB hV.size) (HTY.out.below hV hB)).mono fun e w' h => NewV.none (hn2 ▸ h))
          go_wp2_with (first
            | (go_at_call_of 7 x0; refine HIX.out.mono ?_; rintro e w1 ⟨T, u, S1, rfl, hv1, _, hge1, hb1⟩)
            | (at_builtin; refine wpList_push rfl (.tmp 25) (.tmp 31) 23 rfl 20 _ 1 16 Try.underlying23 any_info rfl (by omega) g cap k us (by rfl) ((HTW.out.r1.below hb1).alloc _) w1.heap.size 1 1 #[.iface T u] (by rfl) (by rfl) (Blk.new _ _ _) (by simp [Value.oneCell']) (by omega) (by unfold maxLen; omega) (by omega) ?_; intro g2 cap2 w2 hrow2 hf2 hg2; have HT2 := Lib.hid (HTW.out.step hb1 hv1 hge1 hrow2 rfl hf2 hg2); obtain ⟨hy0, hy1, hy2, hy3, hy4, hy5, hy6, hy7, hy8, hy9, hy10⟩ := range11 (HYC.out w2 HT2.out.below); clear hrow2 hf2 hg2)
            | (go_at_call_of 7 y0; refine (HIY.out w2 HT2.out.below).mono ?_; rintro e w3 ⟨rfl, hb3⟩)
            | (at_builtin; refine wpList_push rfl (.tmp 33) (.tmp 43) 23 rfl 20 _ 1 16 Try.underlying23 any_info rfl (by omega) h cap' k us' (by rfl) ((HT2.out.r2.below hb3).alloc _) w3.heap.size 1 1 #[.nilIface] (by rfl) (by rfl) (Blk.new _ _ _) (by simp [Value.oneCell']) (by omega) (by unfold maxLen; omega) (by omega) ?_; intro h4 cap4 w4 hrow4 hf4 hg4; have HT4 := Lib.hid ((HT2.out.swap.step (x := .nil) (S1 := []) hb3 (by simp [VAt]) (by simp) hrow4 rfl hf4 hg4).swap); clear hrow4 hf4 hg4))
          go_roundw
          case rel =>
            refine ⟨k + 1, g2, cap2, us ++ [.iface T u], S ++ S1, h4, cap4, us' ++ [.nilIface], S' ++ [], by omega, by go_num, rfl, rfl, ?_⟩
            rw [builds_take_succ hlt, HRV.out, hn2]
            exact HT4.out
          case measure => simp [intOf]; omega
        · have HIX : Hid (Calls Try.prog 7 #[.agg #[x0, x1, x2, x3, x4, x5, x6, x7, x8, x9, x10]] wr (NewI wr (build l[k]))) := Lib.hid ((HBX.out _ wr B (Nat.le_trans hB hws) (HTX.out.below HBL.out hB)).mono fun e w' h => NewV.iface hn1 h)
          have HIY : Hid (∀ V, Below w.heap.size w V → Calls Try.prog 7 #[.agg #[y0, y1, y2, y3, y4, y5, y6, y7, y8, y9, y10]] V (NewI V (build l[p]))) := Lib.hid fun V hV => ((HBY.out _ V B (Nat.le_trans hB hV.size) (HTY.out.below hV hB)).mono fun e w' h => NewV.iface hn2 h)
          go_wp2_with (first
            | (go_at_call_of 7 x0; refine HIX.out.mono ?_; rintro e w1 ⟨T, u, S1, rfl, hv1, _, hge1, hb1⟩)
            | (at_builtin; refine wpList_push rfl (.tmp 25) (.tmp 31) 23 rfl 20 _ 1 16 Try.underlying23 any_info rfl (by omega) g cap k us (by rfl) ((HTW.out.r1.below hb1).alloc _) w1.heap.size 1 1 #[.iface T u] (by rfl) (by rfl) (Blk.new _ _ _) (by simp [Value.oneCell']) (by omega) (by unfold maxLen; omega) (by omega) ?_; intro g2 cap2 w2 hrow2 hf2 hg2; have HT2 := Lib.hid (HTW.out.step hb1 hv1 hge1 hrow2 rfl hf2 hg2); obtain ⟨hy0, hy1, hy2, hy3, hy4, hy5, hy6, hy7, hy8, hy9, hy10⟩ := range11 (HYC.out w2 HT2.out.below); clear hrow2 hf2 hg2)
            | (go_at_call_of 7 y0; refine (HIY.out w2 HT2.out.below).mono ?_; rintro e w3 ⟨T2, u2, S3, rfl, hv3, _, hge3, hb3⟩)
            | (at_builtin; refine wpList_push rfl (.tmp 33) (.tmp 43) 23 rfl 20 _ 1 16 Try.underlying23 any_info rfl (by omega) h cap' k us' (by rfl) ((HT2.out.r2.below hb3).alloc _) w3.heap.size 1 1 #[.iface T2 u2] (by rfl) (by rfl) (Blk.new _ _ _) (by simp [Value.oneCell']) (by omega) (by unfold maxLen; omega) (by omega) ?_; intro h4 cap4 w4 hrow4 hf4 hg4; have HT4 := Lib.hid ((HT2.out.swap.step hb3 hv3 hge3 hrow4 rfl hf4 hg4).swap); clear hrow4 hf4 hg4))
          go_roundw
          case rel =>
            refine ⟨k + 1, g2, cap2, us ++ [.iface T u], S ++ S1, h4, cap4, us' ++ [.iface T2 u2], S' ++ S3, by omega, by go_num, rfl, rfl, ?_⟩
            rw [builds_take_succ hlt, HRV.out]
            exact HT4.out
          case measure => simp [intOf]; omega
    · obtain rfl : k = l.length := by omega
      have htwo := HTW.out
      rw [List.take_of_length_le (Nat.le_refl _), List.take_of_length_le (by simp), builds_rev] at htwo
      have hne : errG (builds l).reverse ≠ 0 := fun h => HE.out ((errG_turned _).1 h)
      have HC1 := Lib.hid (group_bad (builds l) g cap us S wr (by rw [builds_len]; exact htwo.r1) htwo.v1 (by rw [builds_len]; exact hl) HE.out)
      have HC2 : Hid (∀ V, Below wr.heap.size wr V → Calls Try.prog 8 #[.slice (some ⟨h, 0, none⟩) l.length cap'] V (fun e w' => e = .returned (.tuple #[.slice none 0 0, .int .i64 (errG (builds l).reverse)]) ∧ Below V.heap.size V w')) := Lib.hid fun V hV => by
        have := group_bad (builds l).reverse h cap' us' S' V (by rw [List.length_reverse, builds_len]; exact htwo.r2.below hV) (htwo.v2.below hV) (by rw [List.length_reverse, builds_len]; exact hl) hne
        rwa [List.length_reverse, builds_len] at this
      have HC3 : Hid (∀ V, Below w.heap.size w V → Calls Try.prog 9 #[.slice A l.length cap0] V (fun e w' => e = .returned (.tuple #[.slice none 0 0, .int .i64 (errG (builds l))]) ∧ Below V.heap.size V w')) := Lib.hid fun V hV => rgroup_bad l rows A cap0 V B (Nat.le_trans hB hV.size) (HR.out.below hV hB) (HT.out.below hV hB) hl HE.out
      rw [builds_len] at HC1
      have hE := HE.out
      clear htwo HE
      generalize errG (builds l) = er at HC1 HC2 HC3 hE
      generalize errG (builds l).reverse = er' at HC2 hne
      have he1 : (er == 0) = false := by simpa using hE
      have he2 : (er' == 0) = false := by simpa using hne
      have he3 : (er != 0) = true := by simpa using hE
      go_wp2_with (first
        | (go_at_call_of 8 g; refine HC1.out.mono ?_; rintro e w1 ⟨rfl, hb1⟩)
        | (go_at_call_of 8 h; refine (HC2.out w1 hb1).mono ?_; rintro e w2 ⟨rfl, hb2⟩)
        | (go_at_call 9; refine (HC3.out w2 ((HBL.out.trans (hb1.mono hws)).trans (hb2.mono (Nat.le_trans hws hb1.size)))).mono ?_; rintro e w3 ⟨rfl, hb3⟩))
      have HW3 := Lib.hid (((HBL.out.trans (hb1.mono hws)).trans (hb2.mono (Nat.le_trans hws hb1.size))).trans (hb3.mono (Nat.le_trans (Nat.le_trans hws hb1.size) hb2.size)))
      clear hb1 hb2 hb3
      go_loopw [12, 13] (fun v12 v13 wq => v12 = .int .i64 0 ∧ v13 = .int .i64 0 ∧ Below w.heap.size w wq) (fun _ _ _ => 0)
      case atStart => exact ⟨rfl, rfl, HW3.out⟩
      case round =>
        obtain ⟨rfl, rfl, hbq⟩ := hrel
        have HBQ := Lib.hid hbq
        clear hbq
        go_wp2
        go_loopw [14] (fun v14 wq => ∃ k : Nat, k ≤ l.length ∧ v14 = .int .i64 k ∧ Below w.heap.size w wq) (fun v14 _ => l.length - (intOf v14).toNat)
        case atStart => exact ⟨0, Nat.zero_le _, rfl, HBQ.out⟩
        case round =>
          obtain ⟨k, hk, rfl, hbz⟩ := hrel
          have HBZ := Lib.hid hbz
          clear hbz
          have hk0 : (0 : Int) ≤ (k : Int) := Int.natCast_nonneg _
          by_cases hlt : k < l.length
          · have hk1 : (k : Int) < (l.length : Int) := by omega
            go_wp2
            refine region_seq 14 (Kept wr.heap.size wr) (by kernel_rfl) (by kernel_rfl) (Kept.refl _) (fun hHeld => ?_)
            repeat (first | (refine seq_take_free (v := ?_) (by kernel_rfl) rfl (fun _ _ _ h => h) hHeld ?_ ?_; rotate_left; (focus (((intro w hSw; obtain ⟨hk1, hk2⟩ := Kept.cells hSw; clear hSw; go_simp) <;> with_reducible rfl); done)); (try simp only [Act.put, List.setIfInBounds_toArray, List.set_cons_zero, List.set_cons_succ])) | (refine seq_take_on (v := ?_) (by kernel_rfl) rfl rfl rfl (fun _ _ _ h => h) hHeld ?_ ?_; rotate_left; (focus (((intro w hSw; obtain ⟨hk1, hk2⟩ := Kept.cells hSw; clear hSw; go_simp) <;> with_reducible rfl); done)); (try simp only [Act.put, List.setIfInBounds_toArray, List.set_cons_zero, List.set_cons_succ])) | (refine seq_off (by kernel_rfl) rfl rfl rfl (fun _ _ _ h => h) hHeld ?_; (try simp only [Act.put, List.setIfInBounds_toArray, List.set_cons_zero, List.set_cons_succ])))
            refine seq_done ?_
            go_wp2
            go_roundw
            case rel => exact ⟨k + 1, by omega, by go_num, HBZ.out.drew⟩
            case measure => simp [intOf]; omega
          · obtain rfl : k = l.length := by omega
            have hd1 : decide ((l.length : Int) < (l.length : Int)) = false := by simp
            have HONE := Lib.hid (one_any wr)
            go_wp2_with (go_at_call 8; refine HONE.out.mono ?_; rintro e w5 ⟨g5, cap5, rfl, hc5, hb5⟩)
            go_ret
            exact ⟨rfl, HBZ.out.trans (hb5.mono HBZ.out.size)⟩
end Go.Proofs.Ythanmakakcmkeaa
