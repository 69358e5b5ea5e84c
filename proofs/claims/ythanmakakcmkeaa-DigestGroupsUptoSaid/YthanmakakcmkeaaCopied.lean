/- value.copied, copiedDict, Copy; digest.copied: a value in memory of its own. -/
import Derived.Test.YthanmakakcmkeaaGood
import Derived.Test.YthanmakakcmkeaaReg
namespace Go.Proofs.Ythanmakakcmkeaa
open Go.RowKit

theorem wpList_mk {P : Program} {w : World} {ops : Array Oper} {rest : List Oper} {o : Oper} {a : Act} {Q : Exit → Act → World → Prop} (hg : o.guard = none) (l c : Operand) (t : TypeId) (hop : o.op = Op.makeSlice t l c)
    (e : TypeId) (z : Value) (size bytes : Nat) (h1 : P.underlying t = some (.slice e)) (hi : (P.info? e).map (fun i => (i.zero, i.size, i.bytes)) = some (some z, size, bytes))
    (C : Int) (n : Nat) (hl : a.eval l = .int .i64 0) (hc : a.eval c = .int .i64 C) (hC : C = (n : Int)) (b2 : bytes * n ≤ 281474976710656) (b3 : n ≤ maxLen)
    (h : ∀ w', Row w' e size w.heap.size n 0 [] → Below w.heap.size w w' → wpList P ops Q rest (a.put o.dst (.slice (some ⟨w.heap.size, 0, none⟩) 0 n)) w') : wpList P ops Q (o :: rest) a w := by
  obtain ⟨i, hi0, hz, hsize, hby⟩ := info_parts hi
  refine wpList_make_own w hg l c t hop 0 e i z size h1 hi0 hz hsize .i64 .i64 C n hl hc hC (by rw [hby]; exact b2) b3 (Nat.zero_le _) ?_
  intro w' hown hgrow
  exact h w' (Row.of_own hown) (((Fr.refl [] w).grown hgrow (fun k hk => by cases hk)).below _ (Nat.le_refl _) (by simp))

theorem Acc.made {w w' : World} {e size n : Nat} (hr : Row w' e size w.heap.size n 0 []) (hb : Below w.heap.size w w') : Acc w w' e size w.heap.size n 0 [] [] [] [] :=
  ⟨hr, by simp [VsAt], by simp, by simp, hb⟩

def CopyAt (x : V) : Prop := ∀ (v : Value) (S : List Nat) (w : World), VAt w x v S → goodV x → Calls Try.prog 71 #[v] w (NewV w x)

theorem copied_nil : CopyAt (.nil) := by
  intro v S w h hg
  have hh := h
  obtain ⟨rfl, _⟩ := (by simpa only [VAt] using h)
  have hS : S = [] := by simp only [VAt] at hh; first | exact hh.2 | exact hh.2.1
  subst hS
  obtain ⟨a1, a2, a3, a4, a5, a6, a7, a8, a9⟩ := tas_nil
  clear h hg
  have HH := Lib.hid hh
  clear hh
  go_enter Try.func71, Try.ntmps71
  go_wp2
  go_ret
  exact ⟨_, [], rfl, HH.out, by simp, by simp, Below.refl _ _⟩
theorem copied_bool (b : Bool) : CopyAt (.bool b) := by
  intro v S w h hg
  have hh := h
  obtain ⟨rfl, _⟩ := (by simpa only [VAt] using h)
  have hS : S = [] := by simp only [VAt] at hh; first | exact hh.2 | exact hh.2.1
  subst hS
  obtain ⟨a1, a2, a3, a4, a5, a6, a7, a8, a9⟩ := tas_bool
  clear h hg
  have HH := Lib.hid hh
  clear hh
  go_enter Try.func71, Try.ntmps71
  go_wp2
  go_ret
  exact ⟨_, [], rfl, HH.out, by simp, by simp, Below.refl _ _⟩
theorem copied_int (b : Int) : CopyAt (.int b) := by
  intro v S w h hg
  have hh := h
  obtain ⟨rfl, _⟩ := (by simpa only [VAt] using h)
  have hS : S = [] := by simp only [VAt] at hh; first | exact hh.2 | exact hh.2.1
  subst hS
  obtain ⟨a1, a2, a3, a4, a5, a6, a7, a8, a9⟩ := tas_int
  clear h hg
  have HH := Lib.hid hh
  clear hh
  go_enter Try.func71, Try.ntmps71
  go_wp2
  go_ret
  exact ⟨_, [], rfl, HH.out, by simp, by simp, Below.refl _ _⟩
theorem copied_float (b : Nat) : CopyAt (.float b) := by
  intro v S w h hg
  have hh := h
  obtain ⟨rfl, _⟩ := (by simpa only [VAt] using h)
  have hS : S = [] := by simp only [VAt] at hh; first | exact hh.2 | exact hh.2.1
  subst hS
  obtain ⟨a1, a2, a3, a4, a5, a6, a7, a8, a9⟩ := tas_float
  clear h hg
  have HH := Lib.hid hh
  clear hh
  go_enter Try.func71, Try.ntmps71
  go_wp2
  go_ret
  exact ⟨_, [], rfl, HH.out, by simp, by simp, Below.refl _ _⟩
theorem copied_text (b : ByteArray) : CopyAt (.text b) := by
  intro v S w h hg
  have hh := h
  obtain ⟨rfl, _⟩ := (by simpa only [VAt] using h)
  have hS : S = [] := by simp only [VAt] at hh; first | exact hh.2 | exact hh.2.1
  subst hS
  obtain ⟨a1, a2, a3, a4, a5, a6, a7, a8, a9⟩ := tas_text
  clear h hg
  have HH := Lib.hid hh
  clear hh
  go_enter Try.func71, Try.ntmps71
  go_wp2
  go_ret
  exact ⟨_, [], rfl, HH.out, by simp, by simp, Below.refl _ _⟩
theorem copied_ref (b : Int) : CopyAt (.ref b) := by
  intro v S w h hg
  have hh := h
  obtain ⟨rfl, _⟩ := (by simpa only [VAt] using h)
  have hS : S = [] := by simp only [VAt] at hh; first | exact hh.2 | exact hh.2.1
  subst hS
  obtain ⟨a1, a2, a3, a4, a5, a6, a7, a8, a9⟩ := tas_ref
  clear h hg
  have HH := Lib.hid hh
  clear hh
  go_enter Try.func71, Try.ntmps71
  go_wp2
  go_ret
  exact ⟨_, [], rfl, HH.out, by simp, by simp, Below.refl _ _⟩

set_option maxRecDepth 20000 in
set_option maxHeartbeats 1000000 in
theorem copied_bytes (l : List UInt8) : CopyAt (.bytes l) := by
  intro v S w h hg
  obtain ⟨g0, c0, rfl, hr, _, hl⟩ := (by simpa only [VAt] using h)
  obtain ⟨a1, a2, a3, a4, a5, a6, a7, a8, a9⟩ := tas_bytes
  have HR := Lib.hid (hr.rd w.heap.size hr.lt)
  clear h hg hr
  go_enter Try.func71, Try.ntmps71
  go_wp2_with (at_builtin; refine wpList_pushes (by rfl) _ _ _ (by rfl) 5 _ 1 1 Try.underlying26 u8_info rfl (by omega) w.heap.size 0 0 [] (by rfl) (Row.made w 5 1 #[] 0 (by decide) rfl) w.heap.size _ _ _ _ (by rfl) (HR.out.below ((Below.refl _ _).alloc (Nat.le_refl _) _) (Nat.le_refl _)) (u8_one l) (by unfold maxLen; omega) (by omega) ?_; intro g cap w' hrow hf hg)
  go_ret
  have hnew : w.heap.size ≤ g := by rcases hg with rfl | hg; exact Nat.le_refl _; simp at hg; omega
  refine ⟨_, [g], by simp; rfl, ?_, by simp, by simpa using hnew, ((Below.refl _ _).alloc (Nat.le_refl _) _).trans (hf.below _ (by simp) (by simp))⟩
  simp only [VAt]
  exact ⟨g, cap, by simp, by simpa using hrow, rfl, hl⟩

set_option maxRecDepth 100000 in
set_option maxHeartbeats 4000000 in
theorem copied_list (xs : List V) (ih : ∀ x ∈ xs, CopyAt x) : CopyAt (.list xs) := by
  intro v S w h hg
  obtain ⟨g0, c0, vs, Ss, rfl, hr, hvs, _, hl⟩ := (by simpa only [VAt] using h)
  obtain ⟨a1, a2, a3, a4, a5, a6, a7, a8, a9⟩ := tas_list
  have HR := Lib.hid hr
  have HV := Lib.hid hvs
  have HG := Lib.hid (goodsV_get xs (by simpa only [goodV] using hg))
  have HI := Lib.hid ih
  clear h hg hr hvs ih
  go_enter Try.func71, Try.ntmps71
  go_wp2_with (at_make; refine wpList_mk (by rfl) _ _ _ (by rfl) 20 _ 1 16 Try.underlying75 any_info _ xs.length (by rfl) (by rfl) rfl (by omega) (by unfold maxLen; omega) ?_; intro wm hrow0 hbm)
  have HACC0 := Lib.hid (Acc.made hrow0 hbm)
  clear hrow0
  go_loopw [5, 7, 26] (fun v5 v7 v26 wr => ∃ (m g cap : Nat) (us : List Value) (S2 : List Nat), v26 = .int .i64 m ∧ v5 = .slice (some ⟨g, 0, none⟩) m cap ∧ m ≤ xs.length ∧ Acc w wr 20 1 g cap m us (xs.take m) us S2) (fun _ _ v _ => xs.length - (intOf v).toNat)
  case atStart => exact ⟨0, w.heap.size, xs.length, [], [], rfl, rfl, Nat.zero_le _, by simpa using HACC0.out⟩
  case round =>
    obtain ⟨m, g, cap, us, S2, rfl, rfl, hm, hacc⟩ := hrel
    have HACC := Lib.hid hacc
    clear hacc
    have hk0 : (0 : Int) ≤ (m : Int) := Int.natCast_nonneg _
    by_cases hlt : m < xs.length
    · have hk1 : (m : Int) < (xs.length : Int) := by omega
      obtain ⟨x, S1, hx, hvx, _⟩ := VsAt.getk (HV.out.below HACC.out.below) hlt
      have hc0 : wr.cell? ⟨g0, m, none⟩ = some x := by rw [(HR.out.below HACC.out.below).cell m (by omega), hx]
      have hih := HI.out _ (List.getElem_mem hlt) x S1 wr hvx (HG.out _ (List.getElem_mem hlt))
      have hfx := hvx.form
      clear hx
      by_cases hnil : xs[m] = .nil
      · have HIH := Lib.hid (hih.mono fun e w' h => NewV.none (hnil ▸ h))
        clear hih hvx
        rcases hfx with rfl | ⟨T, x, rfl⟩
        all_goals
          go_wp2_with (first | (go_at_call 71; refine HIH.out.mono ?_; rintro e w1 ⟨rfl, hb1⟩) | (at_builtin; refine wpList_push (by rfl) _ _ _ (by rfl) 20 _ 1 16 Try.underlying75 any_info rfl (by omega) g cap m us (by rfl) ((HACC.out.row.below hb1).alloc _) w1.heap.size 1 1 #[.nilIface] (by rfl) (by rfl) (Blk.new _ _ _) (by simp [Value.oneCell']) (by omega) (by unfold maxLen; omega) (by omega) ?_; intro g2 cap2 w2 hrow2 hf2 hg2))
          go_roundw
          case rel =>
            refine ⟨m + 1, g2, cap2, us ++ [.nilIface], S2 ++ [], by go_num, rfl, by omega, ?_⟩
            rw [List.take_succ_eq_append_getElem hlt]
            rw [hnil]
            exact HACC.out.step (wr := wr) (w1 := w1) hb1 (v := .nilIface) (S1 := []) (by simp [VAt]) (by simp) (by simp) hrow2 hf2 hg2
          case measure => simp [intOf]; omega
      · have HIH := Lib.hid (hih.mono fun e w' h => NewV.iface hnil h)
        clear hih hvx
        rcases hfx with rfl | ⟨T, x, rfl⟩
        all_goals
          go_wp2_with (first | (go_at_call 71; refine HIH.out.mono ?_; rintro e w1 ⟨T1, u1, S1, rfl, hv, hnd1, hge1, hb1⟩) | (at_builtin; refine wpList_push (by rfl) _ _ _ (by rfl) 20 _ 1 16 Try.underlying75 any_info rfl (by omega) g cap m us (by rfl) ((HACC.out.row.below hb1).alloc _) w1.heap.size 1 1 #[.iface T1 u1] (by rfl) (by rfl) (Blk.new _ _ _) (by simp [Value.oneCell']) (by omega) (by unfold maxLen; omega) (by omega) ?_; intro g2 cap2 w2 hrow2 hf2 hg2))
          go_roundw
          case rel =>
            refine ⟨m + 1, g2, cap2, us ++ [.iface T1 u1], S2 ++ S1, by go_num, rfl, by omega, ?_⟩
            rw [List.take_succ_eq_append_getElem hlt]
            skip
            exact HACC.out.step (wr := wr) (w1 := w1) hb1 hv hnd1 hge1 hrow2 hf2 hg2
          case measure => simp [intOf]; omega
    · obtain rfl : m = xs.length := by omega
      go_wp2
      go_ret
      have hacc := HACC.out
      rw [List.take_of_length_le (by omega)] at hacc
      refine ⟨_, g :: S2, rfl, ?_, hacc.nodup, hacc.new, hacc.below⟩
      simp only [VAt]
      exact ⟨g, cap, us, S2, rfl, hacc.row, hacc.vals, rfl, hl⟩

def NewFields (w : World) (ns : List ByteArray) (xs : List V) (e : Ending) (w' : World) : Prop := ∃ g cap us S, e = .returned (.slice (some ⟨g, 0, none⟩) xs.length cap) ∧ Row w' 112 2 g cap xs.length (fldCells ns us) ∧ VsAt w' xs us S ∧ (g :: S).Nodup ∧ (∀ b ∈ g :: S, w.heap.size ≤ b) ∧ Below w.heap.size w w'

set_option maxRecDepth 100000 in
set_option maxHeartbeats 8000000 in
theorem copiedDict_any (ns : List ByteArray) (xs : List V) (ih : ∀ x ∈ xs, CopyAt x) (g0 c0 : Nat) (vs : List Value) (Ss : List Nat) (w : World) (hr : Row w 112 2 g0 c0 xs.length (fldCells ns vs)) (hvs : VsAt w xs vs Ss) (hns : ns.length = xs.length) (hg : goodsV xs) (hl : xs.length ≤ 1048576) :
    Calls Try.prog 105 #[.slice (some ⟨g0, 0, none⟩) xs.length c0] w (NewFields w ns xs) := by
  have HR := Lib.hid hr
  have HV := Lib.hid hvs
  have HVL := Lib.hid (VsAt.length xs hvs)
  have HNS := Lib.hid hns
  have HG := Lib.hid (goodsV_get xs hg)
  have HI := Lib.hid ih
  clear hg hr hvs ih hns
  go_enter Try.func105, Try.ntmps105
  go_wp2_with (at_make; refine wpList_mk (by rfl) _ _ _ (by rfl) 112 _ 2 32 Try.underlying77 fld_info _ xs.length (by rfl) (by rfl) rfl (by omega) (by unfold maxLen; omega) ?_; intro wm hrow0 hbm)
  have HACC0 := Lib.hid (Acc.made hrow0 hbm)
  clear hrow0
  go_loopw [3, 5, 11] (fun v3 v5 v11 wr => ∃ (m g cap : Nat) (us : List Value) (S2 : List Nat), v11 = .int .i64 m ∧ v3 = .slice (some ⟨g, 0, none⟩) m cap ∧ m ≤ xs.length ∧ Acc w wr 112 2 g cap m (fldCells (ns.take m) us) (xs.take m) us S2) (fun _ _ v _ => xs.length - (intOf v).toNat)
  case atStart => exact ⟨0, w.heap.size, xs.length, [], [], rfl, rfl, Nat.zero_le _, by simpa [fldCells] using HACC0.out⟩
  case round =>
    obtain ⟨m, g, cap, us, S2, rfl, rfl, hm, hacc⟩ := hrel
    have hgw : g < wr.heap.size := hacc.row.lt
    have HUS : Hid (us.length = m) := Lib.hid (by rw [VsAt.length _ hacc.vals, List.length_take]; omega)
    have HACC := Lib.hid hacc
    clear hacc
    have hk0 : (0 : Int) ≤ (m : Int) := Int.natCast_nonneg _
    by_cases hlt : m < xs.length
    · have hk1 : (m : Int) < (xs.length : Int) := by omega
      obtain ⟨x, S1, hx, hvx, _⟩ := VsAt.getk (HV.out.below HACC.out.below) hlt
      obtain ⟨n, hn⟩ : ∃ n, ns[m]? = some n := ⟨ns[m]'(by have := HNS.out; omega), by simp⟩
      have hnd : ns.getD m ByteArray.empty = n := by rw [List.getD_eq_getElem?_getD, hn]; rfl
      have hca0 : wr.cell? ⟨g0, m * 2, none⟩ = some (.string n) := by rw [(HR.out.below HACC.out.below).cell _ (by omega), (fldCells_name ns vs (by have := HNS.out; have := HVL.out; omega) m (by have := HVL.out; omega)).1, hnd]
      have hca1 : wr.cell? ⟨g0, m * 2 + 1, none⟩ = some x := by rw [(HR.out.below HACC.out.below).cell _ (by omega), (fldCells_name ns vs (by have := HNS.out; have := HVL.out; omega) m (by have := HVL.out; omega)).2, hx]
      have HN := Lib.hid hn
      have HAL := Lib.hid ((Below.refl wr.heap.size wr).alloc (Nat.le_refl _) (.cells #[.string n, x] 112))
      have hih := HI.out _ (List.getElem_mem hlt) x S1 (wr.alloc (.cells #[.string n, x] 112)).drew (hvx.below HAL.out).drew (HG.out _ (List.getElem_mem hlt))
      have hfx := hvx.form
      clear hx hn hnd
      by_cases hnil : xs[m] = .nil
      · have HIH : Hid (∀ W, W = (wr.alloc (.cells #[.string n, x] 112)).drew → Calls Try.prog 71 #[x] W (NewN W)) := Lib.hid fun W hW => by rw [hW]; exact hih.mono fun e w' h => NewV.none (hnil ▸ h)
        clear hih hvx
        rcases hfx with rfl | ⟨T, x, rfl⟩
        · skip
          go_wp2_with fail
          refine wp_region_held_drew (S := (fun w' => w'.cell? ⟨wr.heap.size, 0, none⟩ = some (.string n) ∧ w'.cell? ⟨wr.heap.size, 1, none⟩ = some .nilIface)) (by kernel_rfl) (by go_keep) (fun hHeld => ?_)
          refine held_take (i := 0) (v := ?_) rfl (by kernel_rfl) (by kernel_rfl) (by kernel_rfl) (fun _ _ _ h => h) (by kernel_rfl) ?_ hHeld ?_; rotate_left; focus (((intro w hSw; (try dsimp only at hSw); go_simp) <;> with_reducible rfl); done)
          (try simp only [Act.put, List.setIfInBounds_toArray, List.set_cons_zero, List.set_cons_succ])
          refine held_take (i := 1) (v := ?_) rfl (by kernel_rfl) (by kernel_rfl) (by kernel_rfl) (fun _ _ _ h => h) (by kernel_rfl) ?_ hHeld ?_; rotate_left; focus (((intro w hSw; (try dsimp only at hSw); go_simp) <;> with_reducible rfl); done)
          (try simp only [Act.put, List.setIfInBounds_toArray, List.set_cons_zero, List.set_cons_succ])
          refine held_take (i := 2) (v := ?_) rfl (by kernel_rfl) (by kernel_rfl) (by kernel_rfl) (fun _ _ _ h => h) (by kernel_rfl) ?_ hHeld ?_; rotate_left; focus (((intro w hSw; (try dsimp only at hSw); go_simp) <;> with_reducible rfl); done)
          (try simp only [Act.put, List.setIfInBounds_toArray, List.set_cons_zero, List.set_cons_succ])
          refine held_take (i := 3) (v := ?_) rfl (by kernel_rfl) (by kernel_rfl) (by kernel_rfl) (fun _ _ _ h => h) (by kernel_rfl) ?_ hHeld ?_; rotate_left; focus (((intro w hSw; (try dsimp only at hSw); go_simp) <;> with_reducible rfl); done)
          (try simp only [Act.put, List.setIfInBounds_toArray, List.set_cons_zero, List.set_cons_succ])
          refine held_take (i := 4) (v := ?_) rfl (by kernel_rfl) (by kernel_rfl) (by kernel_rfl) (fun _ _ _ h => h) (by kernel_rfl) ?_ hHeld ?_; rotate_left; focus (((intro w hSw; (try dsimp only at hSw); go_simp) <;> with_reducible rfl); done)
          (try simp only [Act.put, List.setIfInBounds_toArray, List.set_cons_zero, List.set_cons_succ])
          refine held_call (i := 5) rfl (by kernel_rfl) (by kernel_rfl) (fun K hK => ?_)
          go_simp
          (refine (HIH.out _ rfl).mono ?_; rintro e w1 ⟨rfl, hb1⟩)
          refine hK.out _ _ ?_ (fun hHeld2 => ?_)
          · exact ⟨cell_below hb1 hHeld.1, cell_below hb1 hHeld.2⟩
          clear hK K hHeld
          have hHeld := hHeld2
          clear hHeld2
          (try simp only [Act.put, List.setIfInBounds_toArray, List.set_cons_zero, List.set_cons_succ])
          refine held_take (i := 6) (v := ?_) rfl (by kernel_rfl) (by kernel_rfl) (by kernel_rfl) (fun _ _ _ h => h) (by kernel_rfl) ?_ hHeld ?_; rotate_left; focus (((intro w hSw; (try dsimp only at hSw); go_simp) <;> with_reducible rfl); done)
          (try simp only [Act.put, List.setIfInBounds_toArray, List.set_cons_zero, List.set_cons_succ])
          refine held_call (i := 7) rfl (by kernel_rfl) (by kernel_rfl) (fun K hK => ?_)
          go_simp
          have HB1 : Hid (Below wr.heap.size wr w1) := Lib.hid (HAL.out.trans ((below_undrew hb1).mono HAL.out.size))
          refine hK.out _ _ ?_ (fun hHeld2 => ?_)
          · exact ⟨cell_alloc _ hHeld.1, cell_alloc _ hHeld.2⟩
          clear hK K hHeld
          have hHeld := hHeld2
          clear hHeld2
          (try simp only [Act.put, List.setIfInBounds_toArray, List.set_cons_zero, List.set_cons_succ])
          refine held_call (i := 8) rfl (by kernel_rfl) (by kernel_rfl) (fun K hK => ?_)
          (refine wp_push _ _ _ (by rfl) 112 _ 2 32 Try.underlying77 fld_info rfl (by omega) g cap m _ (by rfl) ((HACC.out.row.below HB1.out).alloc _) w1.heap.size 1 1 #[.string n, .nilIface] (by rfl) (by rfl) (Blk.new _ _ _) (by simp [Value.oneCell']) (by omega) (by unfold maxLen; omega) (by omega) ?_; intro g2 cap2 w2 hrow2 hf2 hg2)
          refine hK.out _ _ ?_ (fun hHeld2 => ?_)
          · exact ⟨hf2.cell hHeld.1 (by simp; omega), hf2.cell hHeld.2 (by simp; omega)⟩
          clear hK K hHeld
          have hHeld := hHeld2
          clear hHeld2
          (try simp only [Act.put, List.setIfInBounds_toArray, List.set_cons_zero, List.set_cons_succ])
          refine held_take (i := 9) (v := ?_) rfl (by kernel_rfl) (by kernel_rfl) (by kernel_rfl) (fun _ _ _ h => h) (by kernel_rfl) ?_ hHeld ?_; rotate_left; focus (((intro w hSw; (try dsimp only at hSw); go_simp) <;> with_reducible rfl); done)
          (try simp only [Act.put, List.setIfInBounds_toArray, List.set_cons_zero, List.set_cons_succ])
          refine wpAnyH_done (by kernel_rfl) ?_ _
          go_wp2
          go_roundw
          case rel =>
            refine ⟨m + 1, g2, cap2, us ++ [.nilIface], S2 ++ [], by go_num, rfl, by omega, ?_⟩
            rw [fldCells_snoc HN.out HUS.out _, List.take_succ_eq_append_getElem hlt]
            rw [hnil]
            exact HACC.out.step (wr := wr) (w1 := w1) HB1.out (v := .nilIface) (S1 := []) (by simp [VAt]) (by simp) (by simp) hrow2 hf2 hg2
          case measure => simp [intOf]; omega
        · skip
          go_wp2_with fail
          refine wp_region_held_drew (S := (fun w' => w'.cell? ⟨wr.heap.size, 0, none⟩ = some (.string n) ∧ w'.cell? ⟨wr.heap.size, 1, none⟩ = some (.iface T x))) (by kernel_rfl) (by go_keep) (fun hHeld => ?_)
          refine held_take (i := 0) (v := ?_) rfl (by kernel_rfl) (by kernel_rfl) (by kernel_rfl) (fun _ _ _ h => h) (by kernel_rfl) ?_ hHeld ?_; rotate_left; focus (((intro w hSw; (try dsimp only at hSw); go_simp) <;> with_reducible rfl); done)
          (try simp only [Act.put, List.setIfInBounds_toArray, List.set_cons_zero, List.set_cons_succ])
          refine held_take (i := 1) (v := ?_) rfl (by kernel_rfl) (by kernel_rfl) (by kernel_rfl) (fun _ _ _ h => h) (by kernel_rfl) ?_ hHeld ?_; rotate_left; focus (((intro w hSw; (try dsimp only at hSw); go_simp) <;> with_reducible rfl); done)
          (try simp only [Act.put, List.setIfInBounds_toArray, List.set_cons_zero, List.set_cons_succ])
          refine held_take (i := 2) (v := ?_) rfl (by kernel_rfl) (by kernel_rfl) (by kernel_rfl) (fun _ _ _ h => h) (by kernel_rfl) ?_ hHeld ?_; rotate_left; focus (((intro w hSw; (try dsimp only at hSw); go_simp) <;> with_reducible rfl); done)
          (try simp only [Act.put, List.setIfInBounds_toArray, List.set_cons_zero, List.set_cons_succ])
          refine held_take (i := 3) (v := ?_) rfl (by kernel_rfl) (by kernel_rfl) (by kernel_rfl) (fun _ _ _ h => h) (by kernel_rfl) ?_ hHeld ?_; rotate_left; focus (((intro w hSw; (try dsimp only at hSw); go_simp) <;> with_reducible rfl); done)
          (try simp only [Act.put, List.setIfInBounds_toArray, List.set_cons_zero, List.set_cons_succ])
          refine held_take (i := 4) (v := ?_) rfl (by kernel_rfl) (by kernel_rfl) (by kernel_rfl) (fun _ _ _ h => h) (by kernel_rfl) ?_ hHeld ?_; rotate_left; focus (((intro w hSw; (try dsimp only at hSw); go_simp) <;> with_reducible rfl); done)
          (try simp only [Act.put, List.setIfInBounds_toArray, List.set_cons_zero, List.set_cons_succ])
          refine held_call (i := 5) rfl (by kernel_rfl) (by kernel_rfl) (fun K hK => ?_)
          go_simp
          (refine (HIH.out _ rfl).mono ?_; rintro e w1 ⟨rfl, hb1⟩)
          refine hK.out _ _ ?_ (fun hHeld2 => ?_)
          · exact ⟨cell_below hb1 hHeld.1, cell_below hb1 hHeld.2⟩
          clear hK K hHeld
          have hHeld := hHeld2
          clear hHeld2
          (try simp only [Act.put, List.setIfInBounds_toArray, List.set_cons_zero, List.set_cons_succ])
          refine held_take (i := 6) (v := ?_) rfl (by kernel_rfl) (by kernel_rfl) (by kernel_rfl) (fun _ _ _ h => h) (by kernel_rfl) ?_ hHeld ?_; rotate_left; focus (((intro w hSw; (try dsimp only at hSw); go_simp) <;> with_reducible rfl); done)
          (try simp only [Act.put, List.setIfInBounds_toArray, List.set_cons_zero, List.set_cons_succ])
          refine held_call (i := 7) rfl (by kernel_rfl) (by kernel_rfl) (fun K hK => ?_)
          go_simp
          have HB1 : Hid (Below wr.heap.size wr w1) := Lib.hid (HAL.out.trans ((below_undrew hb1).mono HAL.out.size))
          refine hK.out _ _ ?_ (fun hHeld2 => ?_)
          · exact ⟨cell_alloc _ hHeld.1, cell_alloc _ hHeld.2⟩
          clear hK K hHeld
          have hHeld := hHeld2
          clear hHeld2
          (try simp only [Act.put, List.setIfInBounds_toArray, List.set_cons_zero, List.set_cons_succ])
          refine held_call (i := 8) rfl (by kernel_rfl) (by kernel_rfl) (fun K hK => ?_)
          (refine wp_push _ _ _ (by rfl) 112 _ 2 32 Try.underlying77 fld_info rfl (by omega) g cap m _ (by rfl) ((HACC.out.row.below HB1.out).alloc _) w1.heap.size 1 1 #[.string n, .nilIface] (by rfl) (by rfl) (Blk.new _ _ _) (by simp [Value.oneCell']) (by omega) (by unfold maxLen; omega) (by omega) ?_; intro g2 cap2 w2 hrow2 hf2 hg2)
          refine hK.out _ _ ?_ (fun hHeld2 => ?_)
          · exact ⟨hf2.cell hHeld.1 (by simp; omega), hf2.cell hHeld.2 (by simp; omega)⟩
          clear hK K hHeld
          have hHeld := hHeld2
          clear hHeld2
          (try simp only [Act.put, List.setIfInBounds_toArray, List.set_cons_zero, List.set_cons_succ])
          refine held_take (i := 9) (v := ?_) rfl (by kernel_rfl) (by kernel_rfl) (by kernel_rfl) (fun _ _ _ h => h) (by kernel_rfl) ?_ hHeld ?_; rotate_left; focus (((intro w hSw; (try dsimp only at hSw); go_simp) <;> with_reducible rfl); done)
          (try simp only [Act.put, List.setIfInBounds_toArray, List.set_cons_zero, List.set_cons_succ])
          refine wpAnyH_done (by kernel_rfl) ?_ _
          go_wp2
          go_roundw
          case rel =>
            refine ⟨m + 1, g2, cap2, us ++ [.nilIface], S2 ++ [], by go_num, rfl, by omega, ?_⟩
            rw [fldCells_snoc HN.out HUS.out _, List.take_succ_eq_append_getElem hlt]
            rw [hnil]
            exact HACC.out.step (wr := wr) (w1 := w1) HB1.out (v := .nilIface) (S1 := []) (by simp [VAt]) (by simp) (by simp) hrow2 hf2 hg2
          case measure => simp [intOf]; omega
      · have HIH : Hid (∀ W, W = (wr.alloc (.cells #[.string n, x] 112)).drew → Calls Try.prog 71 #[x] W (NewI W xs[m])) := Lib.hid fun W hW => by rw [hW]; exact hih.mono fun e w' h => NewV.iface hnil h
        clear hih hvx
        rcases hfx with rfl | ⟨T, x, rfl⟩
        · skip
          go_wp2_with fail
          refine wp_region_held_drew (S := (fun w' => w'.cell? ⟨wr.heap.size, 0, none⟩ = some (.string n) ∧ w'.cell? ⟨wr.heap.size, 1, none⟩ = some .nilIface)) (by kernel_rfl) (by go_keep) (fun hHeld => ?_)
          refine held_take (i := 0) (v := ?_) rfl (by kernel_rfl) (by kernel_rfl) (by kernel_rfl) (fun _ _ _ h => h) (by kernel_rfl) ?_ hHeld ?_; rotate_left; focus (((intro w hSw; (try dsimp only at hSw); go_simp) <;> with_reducible rfl); done)
          (try simp only [Act.put, List.setIfInBounds_toArray, List.set_cons_zero, List.set_cons_succ])
          refine held_take (i := 1) (v := ?_) rfl (by kernel_rfl) (by kernel_rfl) (by kernel_rfl) (fun _ _ _ h => h) (by kernel_rfl) ?_ hHeld ?_; rotate_left; focus (((intro w hSw; (try dsimp only at hSw); go_simp) <;> with_reducible rfl); done)
          (try simp only [Act.put, List.setIfInBounds_toArray, List.set_cons_zero, List.set_cons_succ])
          refine held_take (i := 2) (v := ?_) rfl (by kernel_rfl) (by kernel_rfl) (by kernel_rfl) (fun _ _ _ h => h) (by kernel_rfl) ?_ hHeld ?_; rotate_left; focus (((intro w hSw; (try dsimp only at hSw); go_simp) <;> with_reducible rfl); done)
          (try simp only [Act.put, List.setIfInBounds_toArray, List.set_cons_zero, List.set_cons_succ])
          refine held_take (i := 3) (v := ?_) rfl (by kernel_rfl) (by kernel_rfl) (by kernel_rfl) (fun _ _ _ h => h) (by kernel_rfl) ?_ hHeld ?_; rotate_left; focus (((intro w hSw; (try dsimp only at hSw); go_simp) <;> with_reducible rfl); done)
          (try simp only [Act.put, List.setIfInBounds_toArray, List.set_cons_zero, List.set_cons_succ])
          refine held_take (i := 4) (v := ?_) rfl (by kernel_rfl) (by kernel_rfl) (by kernel_rfl) (fun _ _ _ h => h) (by kernel_rfl) ?_ hHeld ?_; rotate_left; focus (((intro w hSw; (try dsimp only at hSw); go_simp) <;> with_reducible rfl); done)
          (try simp only [Act.put, List.setIfInBounds_toArray, List.set_cons_zero, List.set_cons_succ])
          refine held_call (i := 5) rfl (by kernel_rfl) (by kernel_rfl) (fun K hK => ?_)
          go_simp
          (refine (HIH.out _ rfl).mono ?_; rintro e w1 ⟨T1, u1, S1, rfl, hv, hnd1, hge1, hb1⟩)
          refine hK.out _ _ ?_ (fun hHeld2 => ?_)
          · exact ⟨cell_below hb1 hHeld.1, cell_below hb1 hHeld.2⟩
          clear hK K hHeld
          have hHeld := hHeld2
          clear hHeld2
          (try simp only [Act.put, List.setIfInBounds_toArray, List.set_cons_zero, List.set_cons_succ])
          refine held_take (i := 6) (v := ?_) rfl (by kernel_rfl) (by kernel_rfl) (by kernel_rfl) (fun _ _ _ h => h) (by kernel_rfl) ?_ hHeld ?_; rotate_left; focus (((intro w hSw; (try dsimp only at hSw); go_simp) <;> with_reducible rfl); done)
          (try simp only [Act.put, List.setIfInBounds_toArray, List.set_cons_zero, List.set_cons_succ])
          refine held_call (i := 7) rfl (by kernel_rfl) (by kernel_rfl) (fun K hK => ?_)
          go_simp
          have HB1 : Hid (Below wr.heap.size wr w1) := Lib.hid (HAL.out.trans ((below_undrew hb1).mono HAL.out.size))
          refine hK.out _ _ ?_ (fun hHeld2 => ?_)
          · exact ⟨cell_alloc _ hHeld.1, cell_alloc _ hHeld.2⟩
          clear hK K hHeld
          have hHeld := hHeld2
          clear hHeld2
          (try simp only [Act.put, List.setIfInBounds_toArray, List.set_cons_zero, List.set_cons_succ])
          refine held_call (i := 8) rfl (by kernel_rfl) (by kernel_rfl) (fun K hK => ?_)
          (refine wp_push _ _ _ (by rfl) 112 _ 2 32 Try.underlying77 fld_info rfl (by omega) g cap m _ (by rfl) ((HACC.out.row.below HB1.out).alloc _) w1.heap.size 1 1 #[.string n, .iface T1 u1] (by rfl) (by rfl) (Blk.new _ _ _) (by simp [Value.oneCell']) (by omega) (by unfold maxLen; omega) (by omega) ?_; intro g2 cap2 w2 hrow2 hf2 hg2)
          refine hK.out _ _ ?_ (fun hHeld2 => ?_)
          · exact ⟨hf2.cell hHeld.1 (by simp; omega), hf2.cell hHeld.2 (by simp; omega)⟩
          clear hK K hHeld
          have hHeld := hHeld2
          clear hHeld2
          (try simp only [Act.put, List.setIfInBounds_toArray, List.set_cons_zero, List.set_cons_succ])
          refine held_take (i := 9) (v := ?_) rfl (by kernel_rfl) (by kernel_rfl) (by kernel_rfl) (fun _ _ _ h => h) (by kernel_rfl) ?_ hHeld ?_; rotate_left; focus (((intro w hSw; (try dsimp only at hSw); go_simp) <;> with_reducible rfl); done)
          (try simp only [Act.put, List.setIfInBounds_toArray, List.set_cons_zero, List.set_cons_succ])
          refine wpAnyH_done (by kernel_rfl) ?_ _
          go_wp2
          go_roundw
          case rel =>
            refine ⟨m + 1, g2, cap2, us ++ [.iface T1 u1], S2 ++ S1, by go_num, rfl, by omega, ?_⟩
            rw [fldCells_snoc HN.out HUS.out _, List.take_succ_eq_append_getElem hlt]
            skip
            exact HACC.out.step (wr := wr) (w1 := w1) HB1.out hv hnd1 (fun b hm => by have := hge1 b hm; simp at this; omega) hrow2 hf2 hg2
          case measure => simp [intOf]; omega
        · skip
          go_wp2_with fail
          refine wp_region_held_drew (S := (fun w' => w'.cell? ⟨wr.heap.size, 0, none⟩ = some (.string n) ∧ w'.cell? ⟨wr.heap.size, 1, none⟩ = some (.iface T x))) (by kernel_rfl) (by go_keep) (fun hHeld => ?_)
          refine held_take (i := 0) (v := ?_) rfl (by kernel_rfl) (by kernel_rfl) (by kernel_rfl) (fun _ _ _ h => h) (by kernel_rfl) ?_ hHeld ?_; rotate_left; focus (((intro w hSw; (try dsimp only at hSw); go_simp) <;> with_reducible rfl); done)
          (try simp only [Act.put, List.setIfInBounds_toArray, List.set_cons_zero, List.set_cons_succ])
          refine held_take (i := 1) (v := ?_) rfl (by kernel_rfl) (by kernel_rfl) (by kernel_rfl) (fun _ _ _ h => h) (by kernel_rfl) ?_ hHeld ?_; rotate_left; focus (((intro w hSw; (try dsimp only at hSw); go_simp) <;> with_reducible rfl); done)
          (try simp only [Act.put, List.setIfInBounds_toArray, List.set_cons_zero, List.set_cons_succ])
          refine held_take (i := 2) (v := ?_) rfl (by kernel_rfl) (by kernel_rfl) (by kernel_rfl) (fun _ _ _ h => h) (by kernel_rfl) ?_ hHeld ?_; rotate_left; focus (((intro w hSw; (try dsimp only at hSw); go_simp) <;> with_reducible rfl); done)
          (try simp only [Act.put, List.setIfInBounds_toArray, List.set_cons_zero, List.set_cons_succ])
          refine held_take (i := 3) (v := ?_) rfl (by kernel_rfl) (by kernel_rfl) (by kernel_rfl) (fun _ _ _ h => h) (by kernel_rfl) ?_ hHeld ?_; rotate_left; focus (((intro w hSw; (try dsimp only at hSw); go_simp) <;> with_reducible rfl); done)
          (try simp only [Act.put, List.setIfInBounds_toArray, List.set_cons_zero, List.set_cons_succ])
          refine held_take (i := 4) (v := ?_) rfl (by kernel_rfl) (by kernel_rfl) (by kernel_rfl) (fun _ _ _ h => h) (by kernel_rfl) ?_ hHeld ?_; rotate_left; focus (((intro w hSw; (try dsimp only at hSw); go_simp) <;> with_reducible rfl); done)
          (try simp only [Act.put, List.setIfInBounds_toArray, List.set_cons_zero, List.set_cons_succ])
          refine held_call (i := 5) rfl (by kernel_rfl) (by kernel_rfl) (fun K hK => ?_)
          go_simp
          (refine (HIH.out _ rfl).mono ?_; rintro e w1 ⟨T1, u1, S1, rfl, hv, hnd1, hge1, hb1⟩)
          refine hK.out _ _ ?_ (fun hHeld2 => ?_)
          · exact ⟨cell_below hb1 hHeld.1, cell_below hb1 hHeld.2⟩
          clear hK K hHeld
          have hHeld := hHeld2
          clear hHeld2
          (try simp only [Act.put, List.setIfInBounds_toArray, List.set_cons_zero, List.set_cons_succ])
          refine held_take (i := 6) (v := ?_) rfl (by kernel_rfl) (by kernel_rfl) (by kernel_rfl) (fun _ _ _ h => h) (by kernel_rfl) ?_ hHeld ?_; rotate_left; focus (((intro w hSw; (try dsimp only at hSw); go_simp) <;> with_reducible rfl); done)
          (try simp only [Act.put, List.setIfInBounds_toArray, List.set_cons_zero, List.set_cons_succ])
          refine held_call (i := 7) rfl (by kernel_rfl) (by kernel_rfl) (fun K hK => ?_)
          go_simp
          have HB1 : Hid (Below wr.heap.size wr w1) := Lib.hid (HAL.out.trans ((below_undrew hb1).mono HAL.out.size))
          refine hK.out _ _ ?_ (fun hHeld2 => ?_)
          · exact ⟨cell_alloc _ hHeld.1, cell_alloc _ hHeld.2⟩
          clear hK K hHeld
          have hHeld := hHeld2
          clear hHeld2
          (try simp only [Act.put, List.setIfInBounds_toArray, List.set_cons_zero, List.set_cons_succ])
          refine held_call (i := 8) rfl (by kernel_rfl) (by kernel_rfl) (fun K hK => ?_)
          (refine wp_push _ _ _ (by rfl) 112 _ 2 32 Try.underlying77 fld_info rfl (by omega) g cap m _ (by rfl) ((HACC.out.row.below HB1.out).alloc _) w1.heap.size 1 1 #[.string n, .iface T1 u1] (by rfl) (by rfl) (Blk.new _ _ _) (by simp [Value.oneCell']) (by omega) (by unfold maxLen; omega) (by omega) ?_; intro g2 cap2 w2 hrow2 hf2 hg2)
          refine hK.out _ _ ?_ (fun hHeld2 => ?_)
          · exact ⟨hf2.cell hHeld.1 (by simp; omega), hf2.cell hHeld.2 (by simp; omega)⟩
          clear hK K hHeld
          have hHeld := hHeld2
          clear hHeld2
          (try simp only [Act.put, List.setIfInBounds_toArray, List.set_cons_zero, List.set_cons_succ])
          refine held_take (i := 9) (v := ?_) rfl (by kernel_rfl) (by kernel_rfl) (by kernel_rfl) (fun _ _ _ h => h) (by kernel_rfl) ?_ hHeld ?_; rotate_left; focus (((intro w hSw; (try dsimp only at hSw); go_simp) <;> with_reducible rfl); done)
          (try simp only [Act.put, List.setIfInBounds_toArray, List.set_cons_zero, List.set_cons_succ])
          refine wpAnyH_done (by kernel_rfl) ?_ _
          go_wp2
          go_roundw
          case rel =>
            refine ⟨m + 1, g2, cap2, us ++ [.iface T1 u1], S2 ++ S1, by go_num, rfl, by omega, ?_⟩
            rw [fldCells_snoc HN.out HUS.out _, List.take_succ_eq_append_getElem hlt]
            skip
            exact HACC.out.step (wr := wr) (w1 := w1) HB1.out hv hnd1 (fun b hm => by have := hge1 b hm; simp at this; omega) hrow2 hf2 hg2
          case measure => simp [intOf]; omega
    · obtain rfl : m = xs.length := by omega
      go_wp2
      go_ret
      have hacc := HACC.out
      rw [List.take_of_length_le (by have := HNS.out; omega), List.take_of_length_le (by omega)] at hacc
      exact ⟨g, cap, us, S2, rfl, hacc.row, hacc.vals, hacc.nodup, hacc.new, hacc.below⟩
end Go.Proofs.Ythanmakakcmkeaa
