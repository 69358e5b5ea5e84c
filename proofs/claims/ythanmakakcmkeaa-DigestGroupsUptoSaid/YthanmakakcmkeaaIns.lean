/- slices.Insert of one count. -/
import Derived.Test.YthanmakakcmkeaaBin
namespace Go.Proofs.Ythanmakakcmkeaa
open Go.RowKit

theorem count_info : (Try.prog.info? 41).map (fun i => (i.zero, i.size, i.bytes)) = some (some (.agg #[.nilIface, .int .i64 0]), 2, 24) := by kernel_rfl
theorem count_size : (Try.prog.info? 41).map (·.size) = some 2 := by kernel_rfl

def Inserted (w : World) (A : Option Addr) (n i : Nat) (cs : List Value) (x : Value) (c : Int) (e : Ending) (w' : World) : Prop := ∃ g' cap', e = .returned (.slice (some ⟨g', 0, none⟩) (n + 1) cap') ∧
  Row w' 41 2 g' cap' (n + 1) (cs.take (i * 2) ++ [x, .int .i64 c] ++ cs.drop (i * 2)) ∧ Fr (ownL A) w w' ∧ (g' ∈ ownL A ∨ w.heap.size ≤ g')

set_option maxRecDepth 20000 in
set_option maxHeartbeats 2000000 in
theorem ins_end (A : Option Addr) (n cap : Nat) (cs : List Value) (x : Value) (c : Int) (b : Nat) (w : World) (h : RowN w 41 2 A cap n cs) (hn : n ≤ 1048576) (hb : Blk w b 41 #[x, .int .i64 c]) (hx : x.oneCell' = true) :
    Calls Try.prog 34 #[.slice A n cap, .int .i64 n, .slice (some ⟨b, 0, none⟩) 1 1] w (Inserted w A n n cs x c) := by
  have HR := Lib.hid h
  have HB := Lib.hid hb
  have HX := Lib.hid hx
  have hnc : n ≤ cap := by
    rcases h with ⟨_, rfl, rfl, _⟩ | ⟨g, _, h⟩
    · exact Nat.le_refl _
    · exact h.2.1
  have hcs : cs.length = n * 2 := h.own.1
  have HCS := Lib.hid hcs
  have hA : A = none ∧ n = 0 ∧ cap = 0 ∨ ∃ g, A = some ⟨g, 0, none⟩ := by
    rcases h with ⟨h1, h2, h3, _⟩ | ⟨g, h1, _⟩
    · exact .inl ⟨h1, h3, h2⟩
    · exact .inr ⟨g, h1⟩
  clear h hb hx hcs
  have hE : ((n : Int) == (n : Int)) = true := by simp
  rcases hA with ⟨rfl, rfl, rfl⟩ | ⟨g, rfl⟩
  · go_enter Try.func34, Try.ntmps34
    go_wp2_with (at_builtin; refine wpList_pushN (by rfl) _ _ _ (by rfl) 41 _ 2 24 Try.underlying32 count_info rfl (by omega) none 0 0 cs (by rfl) HR.out b 1 1 #[x, .int .i64 c] (by rfl) (by rfl) HB.out (one_cons HX.out (one_cons rfl (by simp))) (by omega) (by unfold maxLen; omega) (by omega) ?_; intro g2 cap2 w2 hrow2 hf2 hg2)
    go_ret
    have hc0 : cs = [] := List.eq_nil_of_length_eq_zero (by simpa using HCS.out)
    subst hc0
    exact ⟨g2, cap2, rfl, by simpa using hrow2, hf2, hg2⟩
  · by_cases hci : cap = n
    · subst hci
      go_enter Try.func34, Try.ntmps34
      go_wp2_with (at_builtin; refine wpList_pushN (by rfl) _ _ _ (by rfl) 41 _ 2 24 Try.underlying32 count_info rfl (by omega) (some ⟨g, 0, none⟩) cap cap cs (by rfl) HR.out b 1 1 #[x, .int .i64 c] (by rfl) (by rfl) HB.out (one_cons HX.out (one_cons rfl (by simp))) (by omega) (by unfold maxLen; omega) (by omega) ?_; intro g2 cap2 w2 hrow2 hf2 hg2)
      go_ret
      refine ⟨g2, cap2, rfl, ?_, hf2, hg2⟩
      rw [List.take_of_length_le (by have := HCS.out; omega), List.drop_of_length_le (by have := HCS.out; omega), List.append_nil]
      exact hrow2
    · have hlt : n < cap := by omega
      go_enter Try.func34, Try.ntmps34
      go_wp2_with (at_builtin; refine wpList_pushN (by rfl) _ _ _ (by rfl) 41 _ 2 24 Try.underlying32 count_info rfl (by omega) (some ⟨g, 0, none⟩) cap n cs (by rfl) HR.out b 1 1 #[x, .int .i64 c] (by rfl) (by rfl) HB.out (one_cons HX.out (one_cons rfl (by simp))) (by omega) (by unfold maxLen; omega) (by omega) ?_; intro g2 cap2 w2 hrow2 hf2 hg2)
      go_ret
      refine ⟨g2, cap2, rfl, ?_, hf2, hg2⟩
      rw [List.take_of_length_le (by have := HCS.out; omega), List.drop_of_length_le (by have := HCS.out; omega), List.append_nil]
      exact hrow2

theorem overlaps_no (w : World) (g cap b : Nat) (n : Nat) (cs : List Value) (cells : Array Value) (hr : Row w 41 2 g cap n cs) (hn : 0 < n) (hb : Blk w b 41 cells) (hne : b ≠ g) (off l c m mc : Nat) :
    (callFunc 51 #[.slice (some ⟨b, 0, none⟩) m mc, .slice (some ⟨g, off, none⟩) l c]).run Try.prog w = .ok (.value (.bool false)) w := by
  obtain ⟨h1, h2, h3, cur, h4, h5, h6⟩ := hr
  rw [run_callFunc_extern Try.func51 (by kernel_rfl) (by kernel_rfl) (by kernel_rfl) (e := Extern.SlicesOverlaps.overlaps #[32, 32] #[4]) (by kernel_rfl),
    Lib.run_overlaps_apart w 32 4 41 Try.underlying32 2 (fun w => by obtain ⟨i, hi, _, hs, _⟩ := info_parts count_info; simp [sizeOf, typeInfo, hi, hs]) ⟨b, 0, none⟩ ⟨g, off, none⟩ m mc l c hne 41 41 cells.size cur.size (by unfold Blk at hb; simp [World.shape?, hb]) (by simp [World.shape?, h4]) (by omega) (hb.free 0) (hb.free _)]
  rfl

theorem ins_list (cs js : List Value) (x y : Value) (n i : Nat) (hj : js.length = 2) (hc : cs.length = n * 2) (hi : i < n) :
    setMany (setMany (cs ++ js) ((i + 1) * 2) (cs.drop (i * 2))) (i * 2) [x, y] = cs.take (i * 2) ++ [x, y] ++ cs.drop (i * 2) := by
  have hl : (setMany (cs ++ js) ((i + 1) * 2) (cs.drop (i * 2))).length = (n + 1) * 2 := by rw [setMany_length]; simp [hj, hc]; omega
  rw [setMany_eq _ _ _ (by rw [hl]; simp; omega), setMany_eq _ _ _ (by simp [hj, hc]; omega)]
  have h1 : (cs ++ js).drop ((i + 1) * 2 + (cs.drop (i * 2)).length) = [] := List.drop_of_length_le (by simp [hj, hc]; omega)
  have h2 : ((cs ++ js).take ((i + 1) * 2)).length = (i + 1) * 2 := by simp [hj, hc]; omega
  rw [h1, List.append_nil]
  rw [List.take_append_of_le_length (by rw [h2]; omega), List.take_take, show min (i * 2) ((i + 1) * 2) = i * 2 by omega, List.take_append_of_le_length (by rw [hc]; omega)]
  rw [show i * 2 + [x, y].length = (i + 1) * 2 by simp; omega, List.drop_append_of_le_length (by rw [h2]; omega), List.drop_of_length_le (by rw [h2]; omega)]
  simp

theorem ins_list2 (cs zs : List Value) (x y : Value) (n i : Nat) (hz : zs.length = (n + 1 - i) * 2) (hc : cs.length = n * 2) (hi : i < n) :
    setMany (setMany (cs.take (i * 2) ++ zs) (i * 2) [x, y]) ((i + 1) * 2) (cs.drop (i * 2)) = cs.take (i * 2) ++ [x, y] ++ cs.drop (i * 2) := by
  have h0 : (cs.take (i * 2)).length = i * 2 := by simp [hc]; omega
  have hl : (setMany (cs.take (i * 2) ++ zs) (i * 2) [x, y]).length = (n + 1) * 2 := by rw [setMany_length]; simp [hc, hz]; omega
  rw [setMany_eq _ _ _ (by rw [hl]; simp [hc]; omega)]
  have h9 : (setMany (cs.take (i * 2) ++ zs) (i * 2) [x, y]).drop ((i + 1) * 2 + (cs.drop (i * 2)).length) = [] := List.drop_of_length_le (by rw [hl]; simp [hc]; omega)
  rw [h9, List.append_nil]
  congr 1
  rw [setMany_eq _ _ _ (by simp [hc, hz]; omega), List.take_left' h0, List.append_assoc]
  rw [← List.append_assoc, List.take_left' (by simp [hc]; omega)]

set_option maxRecDepth 20000 in
set_option maxHeartbeats 4000000 in
theorem ins_shift (g n cap i : Nat) (cs : List Value) (x : Value) (c : Int) (b : Nat) (w : World) (h : Row w 41 2 g cap n cs) (hn : n ≤ 1048576) (hi : i < n) (hroom : n + 1 ≤ cap) (hb : Blk w b 41 #[x, .int .i64 c]) (hbg : b ≠ g) (hx : x.oneCell' = true) (h1 : ∀ v ∈ cs, v.oneCell' = true) :
    Calls Try.prog 34 #[.slice (some ⟨g, 0, none⟩) n cap, .int .i64 i, .slice (some ⟨b, 0, none⟩) 1 1] w (Inserted w (some ⟨g, 0, none⟩) n i cs x c) := by
  obtain ⟨js, hjs, hr1⟩ := h.extend hroom
  have hov := fun off l c' m mc => overlaps_no w g cap b (n + 1) _ _ hr1 (by omega) hb hbg off l c' m mc
  have hcl := h.1
  have hcm := h.2.2.1
  unfold maxLen at hcm
  have HR := Lib.hid hr1
  have HB := Lib.hid hb
  have HX := Lib.hid hx
  have H1 := Lib.hid h1
  have HJ := Lib.hid (And.intro hjs hcl)
  have hbG := Lib.hid hbg
  clear h hb hx h1 hjs hr1 hcl hbg
  have e0 : ((i : Int) == (n : Int)) = false := by simp; omega
  have e1 : decide ((cap : Int) < (n : Int) + 1) = false := by simp; omega
  have e2 : (i : Int) ≤ (n : Int) := by omega
  have e3 : ¬ cap = i := by omega
  have e4 : ¬ cap = i + 1 := by omega
  have e5 : (i : Int) + 1 ≤ (n : Int) + 1 := by omega
  have e6 : (n : Int) + 1 ≤ (cap : Int) := by omega
  have e7 : (0 : Int) ≤ (i : Int) + 1 := by omega
  have e8 : IntKind.i64.wrap ((i : Int) + 1) = (i : Int) + 1 := IntWalk.i64_in _ ⟨by omega, by omega⟩
  have e9 : ((i : Int) + 1).toNat = i + 1 := by omega
  have e10 : (i : Int) ≤ (n : Int) + 1 := by omega
  go_enter Try.func34, Try.ntmps34
  go_wp2_with fail
  refine region_seq 8 (fun _ => True) (by kernel_rfl) (by kernel_rfl) trivial (fun hHeld => ?_)
  repeat (refine seq_take_free (v := ?_) (by kernel_rfl) rfl (fun _ _ _ h => h) hHeld ?_ ?_; rotate_left; (focus (((intro w hSw; clear hSw; go_simp) <;> with_reducible rfl); done)); (try simp only [Act.put, List.setIfInBounds_toArray, List.set_cons_zero, List.set_cons_succ]))
  refine seq_tail_free (by kernel_rfl) rfl (fun K hK => ?_)
  refine wp_copy_row (.tmp 73) (.tmp 76) _ _ (by rfl) 41 2 Try.underlying32 count_size g cap (n + 1) _ HR.out.drew _ _ _ _ _ _ (n - i) (cs.drop (i * 2)) (by rfl) (by rfl) ?_ ?_ ?_ ?_ ?_ ?_
  · simp only [Nat.min_def]; split <;> omega
  · rw [List.length_drop, HJ.out.2]; omega
  · rw [List.length_drop, HJ.out.2]; omega
  · intro j v hj
    rw [List.getElem?_drop] at hj
    have hjl := (List.getElem?_eq_some_iff.1 hj).1
    rw [addr_add]
    exact ((HR.out.cell (i * 2 + j) (by rw [HJ.out.2] at hjl; omega)).trans (by rw [List.getElem?_append_left (by omega)])).trans hj
  · exact fun v hv => H1.out v (List.mem_of_mem_drop hv)
  intro w1 hr2 hf1
  have HR2 := Lib.hid hr2
  have HB2 := Lib.hid (HB.out.fr (Fr.trans ((Fr.refl [g] w).drew) hf1) (by simpa using hbG.out))
  clear hr2
  refine hK.out _ _ ?_
  clear hK K
  (try simp only [Act.put, List.setIfInBounds_toArray, List.set_cons_zero, List.set_cons_succ])
  refine seq_done ?_
  go_wp2_with (refine wpList_copy_row rfl (.tmp 80) (.tmp 81) 32 32 rfl 41 2 Try.underlying32 count_size g cap (n + 1) _ HR2.out _ _ _ _ _ _ 1 [x, .int .i64 c] (by rfl) (by rfl) ?k1 rfl ?k2 ?k3 (one_cons HX.out (one_cons rfl (by simp))) ?_)
  · simp only [Nat.min_def]; split <;> omega
  · simp; omega
  · intro j v hj
    rw [addr_add, Nat.zero_add]
    exact (HB2.out.cell j).trans (by simpa using hj)
  intro w2 hr3 hf2
  have HR3 := Lib.hid hr3
  clear hr3
  go_wp2_with fail
  go_ret
  refine ⟨g, cap, rfl, ?_, ((Fr.refl _ _).drew.trans hf1).trans hf2, .inl (by simp [ownL])⟩
  rw [← ins_list cs js x (.int .i64 c) n i HJ.out.1 HJ.out.2 hi]
  exact HR3.out

set_option maxRecDepth 20000 in
set_option maxHeartbeats 4000000 in
theorem ins_grow (g n cap i : Nat) (cs : List Value) (x : Value) (c : Int) (b : Nat) (w : World) (h : Row w 41 2 g cap n cs) (hn : n ≤ 1048576) (hi : i < n) (hroom : cap < n + 1) (hb : Blk w b 41 #[x, .int .i64 c]) (hbg : b ≠ g) (hx : x.oneCell' = true) (h1 : ∀ v ∈ cs, v.oneCell' = true) :
    Calls Try.prog 34 #[.slice (some ⟨g, 0, none⟩) n cap, .int .i64 i, .slice (some ⟨b, 0, none⟩) 1 1] w (Inserted w (some ⟨g, 0, none⟩) n i cs x c) := by
  have hnc := h.2.1
  obtain rfl : cap = n := by omega
  have hgl := h.lt
  have hbl := hb.lt
  have hcl := h.1
  have HR := Lib.hid h
  have HB := Lib.hid hb
  have HX := Lib.hid hx
  have H1 := Lib.hid h1
  have HCL := Lib.hid hcl
  have HBG := Lib.hid hbg
  clear h hb hx h1 hcl hnc hbg
  have e0 : ((i : Int) == (cap : Int)) = false := by simp; omega
  have e1 : decide ((cap : Int) < (cap : Int) + 1) = true := by simp; omega
  have e2 : (i : Int) ≤ (cap : Int) := by omega
  have e3 : ¬ cap = i := by omega
  have e5 : (i : Int) + 1 ≤ (cap : Int) + 1 := by omega
  have e7 : (0 : Int) ≤ (i : Int) + 1 := by omega
  have e8 : IntKind.i64.wrap ((i : Int) + 1) = (i : Int) + 1 := IntWalk.i64_in _ ⟨by omega, by omega⟩
  have e9 : ((i : Int) + 1).toNat = i + 1 := by omega
  have e10 : (i : Int) ≤ (cap : Int) + 1 := by omega
  go_enter Try.func34, Try.ntmps34
  go_wp2_with (first
    | (at_builtin; refine wpList_zeros_grow rfl (.tmp 34) (.tmp 39) 32 3 rfl 41 _ 2 24 Try.underlying32 Try.underlying3 count_info rfl (by omega) g cap cap cs HR.out i (cap + 1 - i) (cap + 1) ((cap : Int) + 1 - (i : Int)) (by omega) (by omega) (by omega) (by rfl) (by rfl) (by omega) (by omega) (by unfold maxLen; omega) (by omega) ?_; intro cap' zs w1 hz hr1 hb1; have hcc := hr1.2.1; have hcm := hr1.2.2.1; unfold maxLen at hcm; have HZ := Lib.hid hz; have HR1 := Lib.hid hr1; have HB1 := Lib.hid hb1; have hs1 := hb1.size; clear hz hr1 hb1; have t1 : ¬ cap' = i := (by omega); have t2 : ¬ cap' = i + 1 := (by omega); have t3 : (cap : Int) + 1 ≤ (cap' : Int) := (by omega))
    | (refine wpList_copy_row rfl (.tmp 43) (.tmp 44) 32 32 rfl 41 2 Try.underlying32 count_size w.heap.size cap' (cap + 1) _ HR1.out _ _ _ _ _ _ 1 [x, .int .i64 c] (by rfl) (by rfl) (by simp only [Nat.min_def]; split <;> omega) rfl (by simp; omega) (fun j v hj => by rw [addr_add, Nat.zero_add]; exact ((HB.out.below HB1.out).cell j).trans (by simpa using hj)) (one_cons HX.out (one_cons rfl (by simp))) ?_; intro w2 hr2 hf2; have HR2 := Lib.hid hr2; have HF2 := Lib.hid hf2; clear hr2 hf2))
  refine region_seq 8 (fun _ => True) (by kernel_rfl) (by kernel_rfl) trivial (fun hHeld => ?_)
  repeat (refine seq_take_free (v := ?_) (by kernel_rfl) rfl (fun _ _ _ h => h) hHeld ?_ ?_; rotate_left; (focus (((intro w hSw; clear hSw; go_simp) <;> with_reducible rfl); done)); (try simp only [Act.put, List.setIfInBounds_toArray, List.set_cons_zero, List.set_cons_succ]))
  refine seq_tail_free (by kernel_rfl) rfl (fun K hK => ?_)
  refine wp_copy_row (.tmp 50) (.tmp 53) _ _ (by rfl) 41 2 Try.underlying32 count_size w.heap.size cap' (cap + 1) _ HR2.out.drew _ _ _ _ _ _ (cap - i) (cs.drop (i * 2)) (by rfl) (by rfl) ?_ ?_ ?_ ?_ ?_ ?_
  · simp only [Nat.min_def]; split <;> omega
  · rw [List.length_drop, HCL.out]; omega
  · rw [List.length_drop, HCL.out]; omega
  · intro j v hj
    rw [List.getElem?_drop] at hj
    have hjl := (List.getElem?_eq_some_iff.1 hj).1
    rw [addr_add]
    exact (((HR.out.below HB1.out).fr HF2.out (by simp; omega)).cell (i * 2 + j) (by rw [HCL.out] at hjl; omega)).trans hj
  · exact fun v hv => H1.out v (List.mem_of_mem_drop hv)
  intro w3 hr3 hf3
  have HR3 := Lib.hid hr3
  clear hr3
  refine hK.out _ _ ?_
  clear hK K
  (try simp only [Act.put, List.setIfInBounds_toArray, List.set_cons_zero, List.set_cons_succ])
  refine seq_done ?_
  go_wp2_with fail
  go_ret
  have hall := HB1.out.trans ((HF2.out.below w.heap.size HB1.out.size (by simp)).trans (below_undrew (hf3.below w.heap.size (Nat.le_trans HB1.out.size HF2.out.size) (by simp))))
  refine ⟨w.heap.size, cap', rfl, ?_, Fr.of_below hall _, .inr (Nat.le_refl _)⟩
  rw [← ins_list2 cs zs x (.int .i64 c) cap i HZ.out HCL.out hi]
  exact HR3.out

theorem ins_any (A : Option Addr) (n cap i : Nat) (cs : List Value) (x : Value) (c : Int) (b : Nat) (w : World) (h : RowN w 41 2 A cap n cs) (hn : n ≤ 1048576) (hi : i ≤ n) (hb : Blk w b 41 #[x, .int .i64 c]) (hbA : b ∉ ownL A) (hx : x.oneCell' = true) (h1 : ∀ v ∈ cs, v.oneCell' = true) :
    Calls Try.prog 34 #[.slice A n cap, .int .i64 i, .slice (some ⟨b, 0, none⟩) 1 1] w (Inserted w A n i cs x c) := by
  by_cases hin : i = n
  · subst hin
    exact ins_end A i cap cs x c b w h hn hb hx
  · obtain ⟨g, rfl, hr⟩ : ∃ g, A = some ⟨g, 0, none⟩ ∧ Row w 41 2 g cap n cs := by
      rcases h with ⟨_, _, hz, _⟩ | h
      · omega
      · exact h
    by_cases hroom : n + 1 ≤ cap
    · exact ins_shift g n cap i cs x c b w hr hn (by omega) hroom hb (by simpa [ownL] using hbA) hx h1
    · exact ins_grow g n cap i cs x c b w hr hn (by omega) (by omega) hb (by simpa [ownL] using hbA) hx h1
end Go.Proofs.Ythanmakakcmkeaa
