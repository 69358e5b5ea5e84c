/- tenonmake.Plain: the term of a value. -/
import Derived.Test.YthanmakakcmkeaaPlainA
namespace Go.Proofs.Ythanmakakcmkeaa
open Go.RowKit
attribute [local go_sem] run_store_float

set_option maxRecDepth 20000 in
theorem plain_deep (v : Value) (w : World) (d : Int) (hd : 400 < d) : Calls Try.prog 47 #[v, .int .i64 d] w (NewT w (zt 0)) := by
  go_enter Try.func47, Try.ntmps47
  go_wp2
  refine bodyPost_ret (results_cell_row rfl _ _ w.heap.size 31 _ (0, 0) _ rfl (Blk.new _ _ _) Try.underlying31 rfl tm_size) rfl ?_
  exact ⟨_, _, _, _, _, _, _, _, _, _, _, rfl, tmg_leaf _ _ _ _ _ _ _ _ (by decide) (by decide) (by decide) (by decide) (by decide), (Below.refl _ _).alloc (Nat.le_refl _) _⟩
theorem plainT_deep (x : V) (d : Int) (hd : 400 < d) : plainT x d = zt 0 := by cases x <;> simp [plainT, hd]
theorem PlainAt.mk {x : V} (h : ∀ (v : Value) (S : List Nat) (w : World) (d : Int), VAt w x v S → 0 ≤ d → d ≤ 400 → Calls Try.prog 47 #[v, .int .i64 d] w (NewT w (plainT x d))) : PlainAt x := by
  intro v S w d hv h0 h1
  by_cases hd : 400 < d
  · rw [plainT_deep x d hd]; exact plain_deep v w d hd
  · exact h v S w d hv h0 (by omega)

set_option maxRecDepth 20000 in
theorem plain_bool (b : Bool) : PlainAt (.bool b) := PlainAt.mk fun v S w d h h0 h1 => by
  obtain ⟨rfl, _⟩ := (by simpa only [VAt] using h)
  obtain ⟨a1, a2, a3, a4, a5, a6, a7, a8, a9⟩ := tas_bool
  clear h
  simp only [plainT]
  rw [if_neg (by omega)]
  go_enter Try.func47, Try.ntmps47
  go_wp2
  refine bodyPost_ret (results_cell_row rfl _ _ w.heap.size 31 _ (0, 0) _ rfl (Blk.new _ _ _) Try.underlying31 rfl tm_size) rfl ?_
  exact ⟨_, _, _, _, _, _, _, _, _, _, _, rfl, tmg_leaf _ _ _ _ _ _ _ _ (by decide) (by decide) (by decide) (by decide) (by decide), (Below.refl _ _).alloc (Nat.le_refl _) _⟩
set_option maxRecDepth 20000 in
theorem plain_int (b : Int) : PlainAt (.int b) := PlainAt.mk fun v S w d h h0 h1 => by
  obtain ⟨rfl, _, hw⟩ := (by simpa only [VAt] using h)
  obtain ⟨a1, a2, a3, a4, a5, a6, a7, a8, a9⟩ := tas_int
  have HW := Lib.hid hw
  clear h hw
  simp only [plainT]
  rw [if_neg (by omega)]
  go_enter Try.func47, Try.ntmps47
  go_wp2
  refine bodyPost_ret (results_cell_row rfl _ _ w.heap.size 31 _ (0, 0) _ rfl (Blk.new _ _ _) Try.underlying31 rfl tm_size) rfl ?_
  exact ⟨_, _, _, _, _, _, _, _, _, _, _, rfl, tmg_leaf _ _ _ _ _ _ _ _ (by decide) (by decide) (HW.out) (by decide) (by decide), (Below.refl _ _).alloc (Nat.le_refl _) _⟩
set_option maxRecDepth 20000 in
theorem plain_float (b : Nat) : PlainAt (.float b) := PlainAt.mk fun v S w d h h0 h1 => by
  obtain ⟨rfl, _, hw⟩ := (by simpa only [VAt] using h)
  obtain ⟨a1, a2, a3, a4, a5, a6, a7, a8, a9⟩ := tas_float
  have HW := Lib.hid hw
  clear h hw
  simp only [plainT]
  rw [if_neg (by omega)]
  go_enter Try.func47, Try.ntmps47
  go_wp2
  refine bodyPost_ret (results_cell_row rfl _ _ w.heap.size 31 _ (0, 0) _ rfl (Blk.new _ _ _) Try.underlying31 rfl tm_size) rfl ?_
  exact ⟨_, _, _, _, _, _, _, _, _, _, _, rfl, tmg_leaf _ _ _ _ _ _ _ _ (by decide) (by decide) (by decide) (HW.out) (by decide), (Below.refl _ _).alloc (Nat.le_refl _) _⟩
set_option maxRecDepth 20000 in
theorem plain_text (b : ByteArray) : PlainAt (.text b) := PlainAt.mk fun v S w d h h0 h1 => by
  obtain ⟨rfl, _, hw⟩ := (by simpa only [VAt] using h)
  obtain ⟨a1, a2, a3, a4, a5, a6, a7, a8, a9⟩ := tas_text
  have HW := Lib.hid hw
  clear h hw
  simp only [plainT]
  rw [if_neg (by omega)]
  go_enter Try.func47, Try.ntmps47
  go_wp2
  refine bodyPost_ret (results_cell_row rfl _ _ w.heap.size 31 _ (0, 0) _ rfl (Blk.new _ _ _) Try.underlying31 rfl tm_size) rfl ?_
  exact ⟨_, _, _, _, _, _, _, _, _, _, _, rfl, tmg_leaf _ _ _ _ _ _ _ _ (HW.out) (by decide) (by decide) (by decide) (by decide), (Below.refl _ _).alloc (Nat.le_refl _) _⟩
set_option maxRecDepth 20000 in
theorem plain_ref (b : Int) : PlainAt (.ref b) := PlainAt.mk fun v S w d h h0 h1 => by
  obtain ⟨rfl, _, hw⟩ := (by simpa only [VAt] using h)
  obtain ⟨a1, a2, a3, a4, a5, a6, a7, a8, a9⟩ := tas_ref
  have HW := Lib.hid hw
  clear h hw
  simp only [plainT]
  rw [if_neg (by omega)]
  go_enter Try.func47, Try.ntmps47
  go_wp2
  refine bodyPost_ret (results_cell_row rfl _ _ w.heap.size 31 _ (0, 0) _ rfl (Blk.new _ _ _) Try.underlying31 rfl tm_size) rfl ?_
  exact ⟨_, _, _, _, _, _, _, _, _, _, _, rfl, tmg_leaf _ _ _ _ _ _ _ _ (by decide) (by decide) (by decide) (by decide) (HW.out), (Below.refl _ _).alloc (Nat.le_refl _) _⟩
set_option maxRecDepth 20000 in
theorem plain_nil : PlainAt (.nil) := PlainAt.mk fun v S w d h h0 h1 => by
  obtain ⟨rfl, _⟩ := (by simpa only [VAt] using h)
  obtain ⟨a1, a2, a3, a4, a5, a6, a7, a8, a9⟩ := tas_nil
  clear h
  simp only [plainT]
  rw [if_neg (by omega)]
  go_enter Try.func47, Try.ntmps47
  go_wp2
  refine bodyPost_ret (results_cell_row rfl _ _ w.heap.size 31 _ (0, 0) _ rfl (Blk.new _ _ _) Try.underlying31 rfl tm_size) rfl ?_
  exact ⟨_, _, _, _, _, _, _, _, _, _, _, rfl, tmg_leaf _ _ _ _ _ _ _ _ (by decide) (by decide) (by decide) (by decide) (by decide), (Below.refl _ _).alloc (Nat.le_refl _) _⟩
set_option maxRecDepth 20000 in
theorem plain_nothing : PlainAt .nothing := PlainAt.mk fun v S w d h h0 h1 => by
  obtain ⟨rfl, _⟩ := (by simpa only [VAt] using h)
  obtain ⟨a1, a2, a3, a4, a5, a6, a7, a8, a9⟩ := tas_rec
  clear h
  simp only [plainT]
  rw [if_neg (by omega)]
  go_enter Try.func47, Try.ntmps47
  go_wp2
  refine bodyPost_ret (results_cell_row rfl _ _ w.heap.size 31 _ (0, 0) _ rfl (Blk.new _ _ _) Try.underlying31 rfl tm_size) rfl ?_
  exact ⟨_, _, _, _, _, _, _, _, _, _, _, rfl, tmg_leaf _ _ _ _ _ _ _ _ (by decide) (by decide) (by decide) (by decide) (by decide), (Below.refl _ _).alloc (Nat.le_refl _) _⟩
set_option maxRecDepth 20000 in
theorem plain_alien : PlainAt .alien := PlainAt.mk fun v S w d h h0 h1 => by
  obtain ⟨T, u, rfl, hT, _⟩ := (by simpa only [VAt] using h)
  obtain ⟨a1, a2, a3, a4, a5, a6, a7, a8, a9⟩ := tas_alien hT
  clear h hT
  simp only [plainT]
  go_enter Try.func47, Try.ntmps47
  go_wp2
  refine bodyPost_ret (results_cell_row rfl _ _ w.heap.size 31 _ (0, 0) _ rfl (Blk.new _ _ _) Try.underlying31 rfl tm_size) rfl ?_
  exact ⟨_, _, _, _, _, _, _, _, _, _, _, rfl, tmg_leaf _ _ _ _ _ _ _ _ (by decide) (by decide) (by decide) (by decide) (by decide), (Below.refl _ _).alloc (Nat.le_refl _) _⟩

set_option maxRecDepth 20000 in
set_option maxHeartbeats 1000000 in
theorem plain_bytes (l : List UInt8) : PlainAt (.bytes l) := PlainAt.mk fun v S w d h h0 h1 => by
  obtain ⟨g0, c0, rfl, hr, _, hl⟩ := (by simpa only [VAt] using h)
  obtain ⟨a1, a2, a3, a4, a5, a6, a7, a8, a9⟩ := tas_bytes
  have W0 : Below w.heap.size w ((w.alloc (.cells #[.int .i64 0, .bool false, .int .i64 0, .float .f64 0, .string ByteArray.empty, .slice none 0 0, .int .u64 0, .slice none 0 0, .slice none 0 0, .string ByteArray.empty, .int .i64 0] 31)).alloc (.cells #[] 5)) := ((Below.refl _ _).alloc (Nat.le_refl _) _).alloc (by simp) _
  have HR := Lib.hid ((hr.rd w.heap.size hr.lt).below W0 (Nat.le_refl _))
  have HW0 := Lib.hid W0
  have HRow : Hid (Row ((w.alloc (.cells #[.int .i64 0, .bool false, .int .i64 0, .float .f64 0, .string ByteArray.empty, .slice none 0 0, .int .u64 0, .slice none 0 0, .slice none 0 0, .string ByteArray.empty, .int .i64 0] 31)).alloc (.cells #[] 5)) 5 1 (w.heap.size + 1) 0 0 []) := Lib.hid (by simpa using Row.made (w.alloc (.cells #[.int .i64 0, .bool false, .int .i64 0, .float .f64 0, .string ByteArray.empty, .slice none 0 0, .int .u64 0, .slice none 0 0, .slice none 0 0, .string ByteArray.empty, .int .i64 0] 31)) 5 1 #[] 0 (by decide) rfl)
  have HBlk : Hid (Blk ((w.alloc (.cells #[.int .i64 0, .bool false, .int .i64 0, .float .f64 0, .string ByteArray.empty, .slice none 0 0, .int .u64 0, .slice none 0 0, .slice none 0 0, .string ByteArray.empty, .int .i64 0] 31)).alloc (.cells #[] 5)) w.heap.size 31 #[.int .i64 0, .bool false, .int .i64 0, .float .f64 0, .string ByteArray.empty, .slice none 0 0, .int .u64 0, .slice none 0 0, .slice none 0 0, .string ByteArray.empty, .int .i64 0]) := Lib.hid ((Blk.new _ _ _).alloc _)
  have hd0 : decide (400 < d) = false := by simp; omega
  clear h hr W0
  simp only [plainT]
  rw [if_neg (by omega)]
  go_enter Try.func47, Try.ntmps47
  go_wp2_with (first | (at_builtin; refine wpList_pushes (by rfl) _ _ _ (by rfl) 5 _ 1 1 Try.underlying26 u8_info rfl (by omega) (w.heap.size + 1) 0 0 [] (by rfl) HRow.out w.heap.size _ _ _ _ (by rfl) HR.out (u8_one l) (by unfold maxLen; omega) (by omega) ?_; intro g cap w' hrow hf hg; have hb1 := HBlk.out.fr hf (by simp); obtain ⟨q0, q1, q2, q3, q4, q5, q6, q7, q8, q9, q10⟩ := hb1.cells11; obtain ⟨f0, f1, f2, f3, f4, f5, f6, f7, f8, f9, f10⟩ := hb1.frees11; have HB1 := Lib.hid hb1; clear hb1))
  refine bodyPost_ret (results_cell_row rfl _ _ w.heap.size 31 _ (0, 0) _ rfl (HB1.out.set11 _ _ _ _ _ _ _ _ _ _ _) Try.underlying31 rfl tm_size) rfl ?_
  have hf2 := fr_set11 (Fr.refl [w.heap.size] w') (g := w.heap.size) (by simp) (.int .i64 6) (.bool false) (.int .i64 0) (.float .f64 0) (.string ⟨#[]⟩) (.slice (some ⟨g, 0, none⟩) l.length cap) (.int .u64 0) (.slice none 0 0) (.slice none 0 0) (.string ⟨#[]⟩) (.int .i64 0)
  have hgn : w.heap.size + 1 ≤ g := by rcases hg with rfl | hg; exact Nat.le_refl _; simp at hg; omega
  have hgl := hrow.lt
  have hfs := hf2.size
  refine ⟨_, _, _, _, _, _, _, _, _, _, _, rfl, tmg_bytes _ _ l _ cap ?_ hl, ?_⟩
  · exact (by simpa using (hrow.fr hf2 (by simp; omega)) : Row _ 5 1 g cap l.length (l.map u8v)).rdG ⟨by omega, by omega⟩
  · have h9 := HW0.out.size
    exact HW0.out.trans ((hf.below w.heap.size h9 (by simp)).trans (hf2.below w.heap.size (Nat.le_trans h9 hf.size) (by simp)))


/-- new entries -/
def NewE (w : World) (ns : List ByteArray) (ts : List Tm) (e : Ending) (w' : World) : Prop := ∃ A cap rows, e = .returned (.slice A ts.length cap) ∧ RdG w' (fun b => w.heap.size ≤ b ∧ b < w'.heap.size) 12 A ts.length (entRows ns rows) ∧ TmsG w' (fun b => w.heap.size ≤ b ∧ b < w'.heap.size) ts rows ∧ Below w.heap.size w w'
set_option maxRecDepth 100000 in
set_option maxHeartbeats 4000000 in
theorem plain_list (xs : List V) (ih : ∀ x ∈ xs, PlainAt x) : PlainAt (.list xs) := PlainAt.mk fun v S w d h h0 h1 => by
  obtain ⟨g0, c0, vs, Ss, rfl, hr, hvs, _, hl⟩ := (by simpa only [VAt] using h)
  obtain ⟨a1, a2, a3, a4, a5, a6, a7, a8, a9⟩ := tas_list
  have hg0 := hr.lt
  have HR := Lib.hid hr
  have HV := Lib.hid hvs
  have HI := Lib.hid ih
  have HP : Hid (Blk ((w.alloc (.cells #[.int .i64 0, .bool false, .int .i64 0, .float .f64 0, .string ByteArray.empty, .slice none 0 0, .int .u64 0, .slice none 0 0, .slice none 0 0, .string ByteArray.empty, .int .i64 0] 31)).alloc (.cells #[.int .i64 8, .bool false, .int .i64 0, .float .f64 0, .string ByteArray.empty, .slice none 0 0, .int .u64 0, .slice none 0 0, .slice none 0 0, .string ByteArray.empty, .int .i64 0] 31)) w.heap.size 31 #[.int .i64 0, .bool false, .int .i64 0, .float .f64 0, .string ByteArray.empty, .slice none 0 0, .int .u64 0, .slice none 0 0, .slice none 0 0, .string ByteArray.empty, .int .i64 0]) := Lib.hid ((Blk.new _ _ _).alloc _)
  have HQ : Hid (Blk ((w.alloc (.cells #[.int .i64 0, .bool false, .int .i64 0, .float .f64 0, .string ByteArray.empty, .slice none 0 0, .int .u64 0, .slice none 0 0, .slice none 0 0, .string ByteArray.empty, .int .i64 0] 31)).alloc (.cells #[.int .i64 8, .bool false, .int .i64 0, .float .f64 0, .string ByteArray.empty, .slice none 0 0, .int .u64 0, .slice none 0 0, .slice none 0 0, .string ByteArray.empty, .int .i64 0] 31)) (w.heap.size + 1) 31 #[.int .i64 8, .bool false, .int .i64 0, .float .f64 0, .string ByteArray.empty, .slice none 0 0, .int .u64 0, .slice none 0 0, .slice none 0 0, .string ByteArray.empty, .int .i64 0]) := Lib.hid (by simpa using Blk.new (w.alloc (.cells #[.int .i64 0, .bool false, .int .i64 0, .float .f64 0, .string ByteArray.empty, .slice none 0 0, .int .u64 0, .slice none 0 0, .slice none 0 0, .string ByteArray.empty, .int .i64 0] 31)) 31 #[.int .i64 8, .bool false, .int .i64 0, .float .f64 0, .string ByteArray.empty, .slice none 0 0, .int .u64 0, .slice none 0 0, .slice none 0 0, .string ByteArray.empty, .int .i64 0])
  have HB0 : Hid (Below w.heap.size w ((w.alloc (.cells #[.int .i64 0, .bool false, .int .i64 0, .float .f64 0, .string ByteArray.empty, .slice none 0 0, .int .u64 0, .slice none 0 0, .slice none 0 0, .string ByteArray.empty, .int .i64 0] 31)).alloc (.cells #[.int .i64 8, .bool false, .int .i64 0, .float .f64 0, .string ByteArray.empty, .slice none 0 0, .int .u64 0, .slice none 0 0, .slice none 0 0, .string ByteArray.empty, .int .i64 0] 31))) := Lib.hid (((Below.refl _ _).alloc (Nat.le_refl _) _).alloc (by simp) _)
  have hd0 : decide (400 < d) = false := by simp; omega
  have hw1 : IntKind.i64.wrap (d + 1) = d + 1 := IntWalk.i64_in _ ⟨by omega, by omega⟩
  clear h hr hvs ih
  simp only [plainT]
  rw [if_neg (by omega)]
  go_enter Try.func47, Try.ntmps47
  go_wp2
  go_loopw [14] (fun v14 wr => ∃ (k : Nat) (A : Option Addr) (cap : Nat) (rows : List (List Value)), k ≤ xs.length ∧ v14 = .int .i64 k ∧ PAcc wr (w.heap.size + 2) 31 11 A cap k rows.flatten (plainTs (xs.take k) (d + 1)) rows ∧
    Blk wr (w.heap.size + 1) 31 #[.int .i64 8, .bool false, .int .i64 0, .float .f64 0, .string ByteArray.empty, .slice none 0 0, .int .u64 0, .slice A k cap, .slice none 0 0, .string ByteArray.empty, .int .i64 0] ∧ Blk wr w.heap.size 31 #[.int .i64 0, .bool false, .int .i64 0, .float .f64 0, .string ByteArray.empty, .slice none 0 0, .int .u64 0, .slice none 0 0, .slice none 0 0, .string ByteArray.empty, .int .i64 0] ∧ Below w.heap.size w wr ∧ w.heap.size + 2 ≤ wr.heap.size) (fun v _ => xs.length - (intOf v).toNat)
  case atStart => exact ⟨0, none, 0, [], Nat.zero_le _, rfl, by simpa [plainTs] using PAcc.start _ _ _ _, HQ.out, HP.out, HB0.out, by simp⟩
  case round =>
    obtain ⟨k, A, cap, rows, hk, rfl, hacc, hq, hp, hbl, hws⟩ := hrel
    have HACC := Lib.hid hacc
    have HQ2 := Lib.hid hq
    have HP2 := Lib.hid hp
    have HBL := Lib.hid hbl
    have hrl : rows.length = k := by rw [hacc.terms.len, plainTs_len, List.length_take]; omega
    have HRL := Lib.hid hrl
    have hqA : ¬ (w.heap.size + 1) ∈ ownL A := fun hm => by have := hacc.new _ hm; omega
    have hgA : ¬ g0 ∈ ownL A := fun hm => by have := hacc.new _ hm; omega
    clear hacc hp hbl hrl
    have hk0 : (0 : Int) ≤ (k : Int) := Int.natCast_nonneg _
    by_cases hlt : k < xs.length
    · have hk1 : (k : Int) < (xs.length : Int) := by omega
      obtain ⟨x, S1, hx, hvx, _⟩ := VsAt.getk (HV.out.below HBL.out) hlt
      have hc0 : wr.cell? ⟨g0, k, none⟩ = some x := by rw [(HR.out.below HBL.out).cell k (by omega), hx]
      have hq7 : wr.cell? ⟨w.heap.size + 1, 7, none⟩ = some (.slice A k cap) := hq.cell 7
      have hcall := HI.out _ (List.getElem_mem hlt) x S1 wr.drew (d + 1) hvx.drew (by omega) (by omega)
      have HCALL : Hid (∀ V, V = wr.drew → Calls Try.prog 47 #[x, .int .i64 (d + 1)] V (NewT V (plainT xs[k] (d + 1)))) := Lib.hid fun V hV => by rw [hV]; exact hcall
      have hfx := hvx.form
      have hgw : g0 < wr.heap.size := by omega
      have hql : w.heap.size + 1 < wr.heap.size := by omega
      clear hx hvx hcall hq
      rcases hfx with rfl | ⟨T, x, rfl⟩
      all_goals
        go_wp2
        refine region_seq 12 (Fr (ownL A) wr) (by kernel_rfl) (by kernel_rfl) ((Fr.refl _ _).drew) (fun hHeld => ?_)
        repeat (refine seq_take_free (v := ?_) (by kernel_rfl) rfl (fun _ _ _ h => h) hHeld ?_ ?_; rotate_left; (focus (((intro w hSw; have hk1 := Fr.cells hSw; clear hSw; go_simp) <;> with_reducible rfl); done)); (try simp only [Act.put, List.setIfInBounds_toArray, List.set_cons_zero, List.set_cons_succ]))
        refine seq_call_free (by kernel_rfl) rfl (fun K hK => ?_)
        go_simp
        (refine (HCALL.out _ rfl).mono ?_; rintro e w1 ⟨r0, r1, r2, r3, r4, r5, r6, r7, r8, r9, r10, rfl, htm, hb1⟩)
        refine hK.out _ _ ?_ (fun hHeld2 => ?_)
        · exact Fr.trans hHeld (Fr.of_below hb1 _)
        clear hK K hHeld
        have hHeld := hHeld2
        clear hHeld2
        (try simp only [Act.put, List.setIfInBounds_toArray, List.set_cons_zero, List.set_cons_succ])
        repeat (refine seq_take_free (v := ?_) (by kernel_rfl) rfl (fun _ _ _ h => h) hHeld ?_ ?_; rotate_left; (focus (((intro w hSw; have hk1 := Fr.cells hSw; clear hSw; go_simp) <;> with_reducible rfl); done)); (try simp only [Act.put, List.setIfInBounds_toArray, List.set_cons_zero, List.set_cons_succ]))
        refine seq_call_free (by kernel_rfl) rfl (fun K hK => ?_)
        go_simp
        have HHK := Lib.hid hHeld
        refine hK.out _ _ ?_ (fun hHeld2 => ?_)
        · exact Fr.alloc hHeld _
        clear hK K hHeld
        have hHeld := hHeld2
        clear hHeld2
        (try simp only [Act.put, List.setIfInBounds_toArray, List.set_cons_zero, List.set_cons_succ])
        repeat (refine seq_take_free (v := ?_) (by kernel_rfl) rfl (fun _ _ _ h => h) hHeld ?_ ?_; rotate_left; (focus (((intro w hSw; have hk1 := Fr.cells hSw; clear hSw; go_simp) <;> with_reducible rfl); done)); (try simp only [Act.put, List.setIfInBounds_toArray, List.set_cons_zero, List.set_cons_succ]))
        refine seq_call_free (by kernel_rfl) rfl (fun K hK => ?_)
        (refine wp_pushN _ _ _ (by rfl) 31 _ 11 152 Try.underlying22 term_info rfl (by omega) A cap k _ (by rfl) ((HACC.out.row.below (below_undrew hb1)).alloc _) w1.heap.size 1 1 #[r0, r1, r2, r3, r4, r5, r6, r7, r8, r9, r10] (by rfl) (by rfl) (Blk.new _ _ _) (TmAt.one _ (TmG.toAt (fun b hb => hb.2) _ htm)) (by omega) (by unfold maxLen; omega) (by omega) ?_; intro g2 cap2 w2 hrow2 hf2 hg2)
        refine hK.out _ _ ?_ (fun hHeld2 => ?_)
        · exact Fr.trans hHeld hf2
        clear hK K hHeld
        have hHeld := hHeld2
        clear hHeld2
        (try simp only [Act.put, List.setIfInBounds_toArray, List.set_cons_zero, List.set_cons_succ])
        have hq2 := ((HQ2.out.below (below_undrew hb1)).alloc _).fr hf2 hqA
        have hq2c := hq2.cell 7
        have hq2f := hq2.free 7
        have HQ3 := Lib.hid hq2
        clear hq2
        repeat (refine seq_take_free (v := ?_) (by kernel_rfl) rfl (fun _ _ _ h => h) hHeld ?_ ?_; rotate_left; (focus (((intro w hSw; have hk1 := Fr.cells hSw; clear hSw; go_simp) <;> with_reducible rfl); done)); (try simp only [Act.put, List.setIfInBounds_toArray, List.set_cons_zero, List.set_cons_succ]))
        refine seq_tail_free (by kernel_rfl) rfl (fun K hK => ?_)
        go_simp
        skip
        refine hK.out _ _ ?_
        clear hK K
        (try simp only [Act.put, List.setIfInBounds_toArray, List.set_cons_zero, List.set_cons_succ])
        refine seq_done ?_
        go_wp2
        go_roundw
        case rel =>
          have hbb := below_undrew hb1
          have hfq : Fr [w.heap.size + 1] w2 (w2.setCell ⟨w.heap.size + 1, 7, none⟩ (.slice (some ⟨g2, 0, none⟩) (k + 1) cap2)) := (Fr.refl _ _).set (.inl (by simp)) _
          have hpA : ¬ w.heap.size ∈ ownL A := fun hm => by have := HACC.out.new _ hm; omega
          have hallw : Fr (ownL A) wr w2 := ((Fr.of_below hbb _).alloc _).trans hf2
          refine ⟨k + 1, some ⟨g2, 0, none⟩, cap2, rows ++ [[r0, r1, r2, r3, r4, r5, r6, r7, r8, r9, r10]], by omega, by go_num, ?_, by simpa using HQ3.out.set 7 _, (HP2.out.fr hallw hpA).fr hfq (by simp), HBL.out.trans ((hallw.trans (Fr.refl _ _)).below _ (by omega) (fun b hm => by have := HACC.out.new _ hm; omega) |>.trans (hfq.below _ (by have := hallw.size; omega) (by simp))), ?_⟩
          · rw [plainTs_take hlt]
            exact (HACC.out.step (by omega) hbb htm (by simpa using hrow2) hf2 hg2).fr hfq (by simp)
          · have := hallw.size; have := hfq.size; omega
        case measure => simp [intOf]; omega
    · obtain rfl : k = xs.length := by omega
      obtain ⟨q0, q1, q2, q3, q4, q5, q6, q7, q8, q9, q10⟩ := HQ2.out.cells11
      obtain ⟨s0, s1, s2, s3, s4, s5, s6, s7, s8, s9, s10⟩ := HP2.out.cells11
      obtain ⟨f0, f1, f2, f3, f4, f5, f6, f7, f8, f9, f10⟩ := HP2.out.frees11
      clear hq
      go_wp2
      refine bodyPost_ret (results_cell_row rfl _ _ w.heap.size 31 _ (0, 0) _ rfl (HP2.out.set11 _ _ _ _ _ _ _ _ _ _ _) Try.underlying31 rfl tm_size) rfl ?_
      have hf2 := fr_set11 (Fr.refl [w.heap.size] wr) (g := w.heap.size) (by simp) (.int .i64 8) (.bool false) (.int .i64 0) (.float .f64 0) (.string ⟨#[]⟩) (.slice none 0 0) (.int .u64 0) (.slice A xs.length cap) (.slice none 0 0) (.string ⟨#[]⟩) (.int .i64 0)
      have hacc := HACC.out.fr hf2 (by simp)
      rw [List.take_of_length_le (Nat.le_refl _)] at hacc
      have hlen := plainTs_len xs (d + 1)
      have hfs := hf2.size
      refine ⟨_, _, _, _, _, _, _, _, _, _, _, rfl, ?_, HBL.out.trans (hf2.below _ (by omega) (by simp))⟩
      obtain ⟨hrd, hts⟩ := hacc.done (B := w.heap.size) (by omega)
      exact tmg_list _ _ _ rows A cap xs.length hlen hrd hts (by omega)

set_option maxRecDepth 100000 in
set_option maxHeartbeats 4000000 in
theorem entries_any (ns : List ByteArray) (xs : List V) (ih : ∀ x ∈ xs, PlainAt x) (g0 c0 : Nat) (vs : List Value) (Ss : List Nat) (w : World) (d : Int) (hr : Row w 112 2 g0 c0 xs.length (fldCells ns vs)) (hvs : VsAt w xs vs Ss) (hns : ns.length = xs.length) (hl : xs.length ≤ 1048576) (h0 : 0 ≤ d) (h1 : d ≤ 400) :
    Calls Try.prog 67 #[.slice (some ⟨g0, 0, none⟩) xs.length c0, .int .i64 d] w (NewE w ns (plainTs xs (d + 1))) := by
  have hg0 := hr.lt
  have HR := Lib.hid hr
  have HV := Lib.hid hvs
  have HVL := Lib.hid (VsAt.length xs hvs)
  have HNS := Lib.hid hns
  have HI := Lib.hid ih
  have hw1 : IntKind.i64.wrap (d + 1) = d + 1 := IntWalk.i64_in _ ⟨by omega, by omega⟩
  have HRow0 : Hid (Row (w.alloc (.cells #[] 110)) 110 12 w.heap.size 0 0 []) := Lib.hid (Row.made w 110 12 #[] 0 (by decide) rfl)
  clear hr hvs ih hns
  go_enter Try.func67, Try.ntmps67
  go_wp2
  go_loopw [5, 6] (fun v5 v6 wr => ∃ (k g cap : Nat) (rows : List (List Value)), k ≤ xs.length ∧ v6 = .int .i64 k ∧ v5 = .slice (some ⟨g, 0, none⟩) k cap ∧ PAcc wr w.heap.size 110 12 (some ⟨g, 0, none⟩) cap k (entRows (ns.take k) rows) (plainTs (xs.take k) (d + 1)) rows ∧ Below w.heap.size w wr) (fun _ v _ => xs.length - (intOf v).toNat)
  case atStart => exact ⟨0, w.heap.size, 0, [], Nat.zero_le _, rfl, rfl, ⟨by simpa [entRows] using HRow0.out.toN, by simp [plainTs, TmsG], by simp [ownL]⟩, (Below.refl _ _).alloc (Nat.le_refl _) _⟩
  case round =>
    obtain ⟨k, g, cap, rows, hk, rfl, rfl, hacc, hbl⟩ := hrel
    have HACC := Lib.hid hacc
    have HBL := Lib.hid hbl
    have hws := hbl.size
    have hrl : rows.length = k := by rw [hacc.terms.len, plainTs_len, List.length_take]; omega
    have HRL := Lib.hid hrl
    have hgg : w.heap.size ≤ g := hacc.new g (by simp [ownL])
    have hgA : ¬ g0 ∈ [g] := by simp; omega
    clear hacc hbl hrl
    have hk0 : (0 : Int) ≤ (k : Int) := Int.natCast_nonneg _
    by_cases hlt : k < xs.length
    · have hk1 : (k : Int) < (xs.length : Int) := by omega
      obtain ⟨x, S1, hx, hvx, _⟩ := VsAt.getk (HV.out.below HBL.out) hlt
      obtain ⟨n, hn⟩ : ∃ n, ns[k]? = some n := ⟨ns[k]'(by have := HNS.out; omega), by simp⟩
      have hnd : ns.getD k ByteArray.empty = n := by rw [List.getD_eq_getElem?_getD, hn]; rfl
      have hca0 : wr.cell? ⟨g0, k * 2, none⟩ = some (.string n) := by rw [(HR.out.below HBL.out).cell _ (by omega), (fldCells_name ns vs (by have := HNS.out; have := HVL.out; omega) k (by have := HVL.out; omega)).1, hnd]
      have hca1 : wr.cell? ⟨g0, k * 2 + 1, none⟩ = some x := by rw [(HR.out.below HBL.out).cell _ (by omega), (fldCells_name ns vs (by have := HNS.out; have := HVL.out; omega) k (by have := HVL.out; omega)).2, hx]
      have HN := Lib.hid hn
      have hcall := HI.out _ (List.getElem_mem hlt) x S1 wr.drew (d + 1) hvx.drew (by omega) (by omega)
      have HCALL : Hid (∀ V, V = wr.drew → Calls Try.prog 47 #[x, .int .i64 (d + 1)] V (NewT V (plainT xs[k] (d + 1)))) := Lib.hid fun V hV => by rw [hV]; exact hcall
      have hfx := hvx.form
      have hgw : g0 < wr.heap.size := by omega
      clear hx hvx hcall hn hnd
      rcases hfx with rfl | ⟨T, x, rfl⟩
      all_goals
        go_wp2
        refine region_seq 18 (Fr [g] wr) (by kernel_rfl) (by kernel_rfl) ((Fr.refl _ _).drew) (fun hHeld => ?_)
        repeat (refine seq_take_free (v := ?_) (by kernel_rfl) rfl (fun _ _ _ h => h) hHeld ?_ ?_; rotate_left; (focus (((intro w hSw; have hk1 := Fr.cells hSw; clear hSw; go_simp) <;> with_reducible rfl); done)); (try simp only [Act.put, List.setIfInBounds_toArray, List.set_cons_zero, List.set_cons_succ]))
        refine seq_call_free (by kernel_rfl) rfl (fun K hK => ?_)
        go_simp
        (refine (HCALL.out _ rfl).mono ?_; rintro e w1 ⟨r0, r1, r2, r3, r4, r5, r6, r7, r8, r9, r10, rfl, htm, hb1⟩)
        refine hK.out _ _ ?_ (fun hHeld2 => ?_)
        · exact Fr.trans hHeld (Fr.of_below hb1 _)
        clear hK K hHeld
        have hHeld := hHeld2
        clear hHeld2
        (try simp only [Act.put, List.setIfInBounds_toArray, List.set_cons_zero, List.set_cons_succ])
        repeat (refine seq_take_free (v := ?_) (by kernel_rfl) rfl (fun _ _ _ h => h) hHeld ?_ ?_; rotate_left; (focus (((intro w hSw; have hk1 := Fr.cells hSw; clear hSw; go_simp) <;> with_reducible rfl); done)); (try simp only [Act.put, List.setIfInBounds_toArray, List.set_cons_zero, List.set_cons_succ]))
        refine seq_call_free (by kernel_rfl) rfl (fun K hK => ?_)
        go_simp
        skip
        refine hK.out _ _ ?_ (fun hHeld2 => ?_)
        · exact Fr.alloc hHeld _
        clear hK K hHeld
        have hHeld := hHeld2
        clear hHeld2
        (try simp only [Act.put, List.setIfInBounds_toArray, List.set_cons_zero, List.set_cons_succ])
        repeat (refine seq_take_free (v := ?_) (by kernel_rfl) rfl (fun _ _ _ h => h) hHeld ?_ ?_; rotate_left; (focus (((intro w hSw; have hk1 := Fr.cells hSw; clear hSw; go_simp) <;> with_reducible rfl); done)); (try simp only [Act.put, List.setIfInBounds_toArray, List.set_cons_zero, List.set_cons_succ]))
        refine seq_call_free (by kernel_rfl) rfl (fun K hK => ?_)
        (refine wp_pushN _ _ _ (by rfl) 110 _ 12 168 Try.underlying29 entry_info rfl (by omega) (some ⟨g, 0, none⟩) cap k _ (by rfl) ((HACC.out.row.below (below_undrew hb1)).alloc _) w1.heap.size 1 1 #[.string n, r0, r1, r2, r3, r4, r5, r6, r7, r8, r9, r10] (by rfl) (by rfl) (Blk.new _ _ _) (one_cons rfl (TmAt.one _ (TmG.toAt (fun b hb => hb.2) _ htm))) (by omega) (by unfold maxLen; omega) (by omega) ?_; intro g2 cap2 w2 hrow2 hf2 hg2)
        refine hK.out _ _ ?_ (fun hHeld2 => ?_)
        · exact Fr.trans hHeld hf2
        clear hK K hHeld
        have hHeld := hHeld2
        clear hHeld2
        (try simp only [Act.put, List.setIfInBounds_toArray, List.set_cons_zero, List.set_cons_succ])
        repeat (refine seq_take_free (v := ?_) (by kernel_rfl) rfl (fun _ _ _ h => h) hHeld ?_ ?_; rotate_left; (focus (((intro w hSw; have hk1 := Fr.cells hSw; clear hSw; go_simp) <;> with_reducible rfl); done)); (try simp only [Act.put, List.setIfInBounds_toArray, List.set_cons_zero, List.set_cons_succ]))
        refine seq_done ?_
        go_wp2
        go_roundw
        case rel =>
          have hbb := below_undrew hb1
          have hallw : Fr [g] wr w2 := ((Fr.of_below hbb _).alloc _).trans hf2
          refine ⟨k + 1, g2, cap2, rows ++ [[r0, r1, r2, r3, r4, r5, r6, r7, r8, r9, r10]], by omega, by go_num, rfl, ?_, HBL.out.trans (hallw.below _ hws (by simp; omega))⟩
          rw [plainTs_take hlt, entRows_snoc HN.out HRL.out]
          exact HACC.out.step (by omega) hbb htm (by simpa using hrow2) hf2 hg2
        case measure => simp [intOf]; omega
    · obtain rfl : k = xs.length := by omega
      go_wp2
      go_ret
      have hacc := HACC.out
      rw [List.take_of_length_le (Nat.le_refl _), List.take_of_length_le (by have := HNS.out; omega)] at hacc
      obtain ⟨hrd, hts⟩ := hacc.done (B := w.heap.size) (Nat.le_refl _)
      have hlen := plainTs_len xs (d + 1)
      exact ⟨_, cap, rows, by rw [hlen]; rfl, by rw [hlen]; exact hrd, hts, HBL.out⟩

theorem entries_below (ns : List ByteArray) (xs : List V) (ih : ∀ x ∈ xs, PlainAt x) (g0 c0 : Nat) (vs : List Value) (Ss : List Nat) (w : World) (d : Int) (hr : Row w 112 2 g0 c0 xs.length (fldCells ns vs)) (hvs : VsAt w xs vs Ss) (hns : ns.length = xs.length) (hl : xs.length ≤ 1048576) (h0 : 0 ≤ d) (h1 : d ≤ 400) :
    ∀ W, Below w.heap.size w W → Calls Try.prog 67 #[.slice (some ⟨g0, 0, none⟩) xs.length c0, .int .i64 d] W (NewE W ns (plainTs xs (d + 1))) := fun W hW =>
  entries_any ns xs ih g0 c0 vs Ss W d (hr.below hW) (hvs.below hW) hns hl h0 h1

set_option maxRecDepth 20000 in
set_option maxHeartbeats 2000000 in
theorem plain_dict (ns : List ByteArray) (xs : List V) (ih : ∀ x ∈ xs, PlainAt x) : PlainAt (.dict ns xs) := PlainAt.mk fun v S w d h h0 h1 => by
  obtain ⟨g0, c0, vs, Ss, rfl, hr, hvs, _, hns, hl, hnb⟩ := (by simpa only [VAt] using h)
  obtain ⟨a1, a2, a3, a4, a5, a6, a7, a8, a9⟩ := tas_dict
  have HE := Lib.hid (entries_below ns xs ih g0 c0 vs Ss w d hr hvs hns hl h0 h1)
  have HNB := Lib.hid (And.intro hns hnb)
  have HP : Hid (Blk (w.alloc (.cells #[.int .i64 0, .bool false, .int .i64 0, .float .f64 0, .string ByteArray.empty, .slice none 0 0, .int .u64 0, .slice none 0 0, .slice none 0 0, .string ByteArray.empty, .int .i64 0] 31)) w.heap.size 31 #[.int .i64 0, .bool false, .int .i64 0, .float .f64 0, .string ByteArray.empty, .slice none 0 0, .int .u64 0, .slice none 0 0, .slice none 0 0, .string ByteArray.empty, .int .i64 0]) := Lib.hid (Blk.new _ _ _)
  have HB0 : Hid (Below w.heap.size w (w.alloc (.cells #[.int .i64 0, .bool false, .int .i64 0, .float .f64 0, .string ByteArray.empty, .slice none 0 0, .int .u64 0, .slice none 0 0, .slice none 0 0, .string ByteArray.empty, .int .i64 0] 31))) := Lib.hid ((Below.refl _ _).alloc (Nat.le_refl _) _)
  have hd0 : decide (400 < d) = false := by simp; omega
  clear h hr hvs ih hns hnb
  simp only [plainT]
  rw [if_neg (by omega)]
  go_enter Try.func47, Try.ntmps47
  go_wp2_with (go_at_call 67; refine (HE.out _ HB0.out).mono ?_; rintro e w1 ⟨A, cap, rows, rfl, hrd, hts, hb1⟩; have hp := HP.out.below hb1; obtain ⟨s0, s1, s2, s3, s4, s5, s6, s7, s8, s9, s10⟩ := hp.cells11; obtain ⟨f0, f1, f2, f3, f4, f5, f6, f7, f8, f9, f10⟩ := hp.frees11; have HP2 := Lib.hid hp; have HRD := Lib.hid (And.intro hrd hts); clear hp hrd hts)
  refine bodyPost_ret (results_cell_row rfl _ _ w.heap.size 31 _ (0, 0) _ rfl (HP2.out.set11 _ _ _ _ _ _ _ _ _ _ _) Try.underlying31 rfl tm_size) rfl ?_
  have hlen := plainTs_len xs (d + 1)
  have hf2 := fr_set11 (Fr.refl [w.heap.size] w1) (g := w.heap.size) (by simp) (.int .i64 9) (.bool false) (.int .i64 0) (.float .f64 0) (.string ⟨#[]⟩) (.slice none 0 0) (.int .u64 0) (.slice none 0 0) (.slice A (plainTs xs (d + 1)).length cap) (.string ⟨#[]⟩) (.int .i64 0)
  have hfs := hf2.size
  have hb1s := hb1.size
  have hbs := HB0.out.size
  refine ⟨_, _, _, _, _, _, _, _, _, _, _, rfl, tmg_fields _ _ _ _ _ _ _ rows A cap _ rfl (by rw [hlen]; exact HNB.out.1) (HRD.out.1.keep ?_) (TmsG.keep ?_ _ HRD.out.2) (by omega) HNB.out.2 (by decide) (by decide) (by decide), HB0.out.trans ((hb1.mono hbs).trans (hf2.below _ (by omega) (by simp)))⟩
  all_goals
    intro b hb
    simp at hb
    exact ⟨⟨by omega, by omega⟩, fun off => hf2.cells b off (by omega) (by simp; omega)⟩

set_option maxRecDepth 20000 in
set_option maxHeartbeats 4000000 in
theorem plain_recd (c : ByteArray) (r : Int) (ns : List ByteArray) (xs : List V) (ih : ∀ x ∈ xs, PlainAt x) : PlainAt (.recd c r ns xs) := PlainAt.mk fun v S w d h h0 h1 => by
  obtain ⟨p, g0, c0, vs, Ss, rfl, hp0, hr, hvs, _, hns, hl, hnb, hcb, hrw⟩ := (by simpa only [VAt] using h)
  obtain ⟨a1, a2, a3, a4, a5, a6, a7, a8, a9⟩ := tas_rec
  have hpl := hp0.lt
  have HE := Lib.hid (entries_below ns xs ih g0 c0 vs Ss w d hr hvs hns hl h0 h1)
  have HNB := Lib.hid (And.intro hns (And.intro hnb (And.intro hcb hrw)))
  have hP : Blk (w.alloc (.cells #[.int .i64 0, .bool false, .int .i64 0, .float .f64 0, .string { data := #[] }, .slice none 0 0, .int .u64 0, .slice none 0 0, .slice none 0 0, .string { data := #[] }, .int .i64 0] 31)) w.heap.size 31 #[.int .i64 0, .bool false, .int .i64 0, .float .f64 0, .string { data := #[] }, .slice none 0 0, .int .u64 0, .slice none 0 0, .slice none 0 0, .string { data := #[] }, .int .i64 0] := Blk.new _ _ _
  have hB0 : Below w.heap.size w (w.alloc (.cells #[.int .i64 0, .bool false, .int .i64 0, .float .f64 0, .string { data := #[] }, .slice none 0 0, .int .u64 0, .slice none 0 0, .slice none 0 0, .string { data := #[] }, .int .i64 0] 31)) := (Below.refl _ _).alloc (Nat.le_refl _) _
  have x0 := (hp0.below hB0).cell 0
  have x1 := (hp0.below hB0).cell 1
  have x2 := (hp0.below hB0).cell 2
  have hz : (w.alloc (.cells #[.int .i64 0, .bool false, .int .i64 0, .float .f64 0, .string { data := #[] }, .slice none 0 0, .int .u64 0, .slice none 0 0, .slice none 0 0, .string { data := #[] }, .int .i64 0] 31)).heap.size = w.heap.size + 1 := by simp
  have HX := Lib.hid (And.intro hP (And.intro hB0 (And.intro x0 (And.intro x1 (And.intro x2 hz)))))
  have hd0 : decide (400 < d) = false := by simp; omega
  clear h hr hvs ih hns hnb hp0 hP hB0 x0 x1 x2 hz
  simp only [plainT]
  rw [if_neg (by omega)]
  go_enter Try.func47, Try.ntmps47
  go_wp2_with fail
  generalize hW0 : w.alloc (.cells #[.int .i64 0, .bool false, .int .i64 0, .float .f64 0, .string { data := #[] }, .slice none 0 0, .int .u64 0, .slice none 0 0, .slice none 0 0, .string { data := #[] }, .int .i64 0] 31) = W0 at HX ⊢
  obtain ⟨hP, hB0, x0, x1, x2, hz⟩ := HX.out
  have HB0 := Lib.hid hB0
  have HP := Lib.hid hP
  have hpW : p < W0.heap.size := by omega
  have hWz : w.heap.size < W0.heap.size := by omega
  clear hW0 HX hB0 hP
  refine region_seq 15 (Kept W0.heap.size W0) (by kernel_rfl) (by kernel_rfl) (Kept.refl _) (fun hHeld => ?_)
  repeat (refine seq_take_free (v := ?_) (by kernel_rfl) rfl (fun _ _ _ h => h) hHeld ?_ ?_; rotate_left; (focus (((intro w hSw; obtain ⟨hk1, hk2⟩ := Kept.cells hSw; clear hSw; go_simp) <;> with_reducible rfl); done)); (try simp only [Act.put, List.setIfInBounds_toArray, List.set_cons_zero, List.set_cons_succ]))
  refine seq_call_free (by kernel_rfl) rfl (fun K hK => ?_)
  go_simp
  (refine (HE.out _ (HB0.out.trans (hHeld.below.mono (by omega)))).mono ?_; rintro e w1 ⟨A, cap, rows, rfl, hrd, hts, hb1⟩)
  refine hK.out _ _ ?_ (fun hHeld2 => ?_)
  · exact hHeld.step hb1 (Nat.le_refl _)
  clear hK K hHeld
  have hHeld := hHeld2
  clear hHeld2
  (try simp only [Act.put, List.setIfInBounds_toArray, List.set_cons_zero, List.set_cons_succ])
  have hp := HP.out.below hHeld.below
  obtain ⟨s0, s1, s2, s3, s4, s5, s6, s7, s8, s9, s10⟩ := hp.cells11
  obtain ⟨f0, f1, f2, f3, f4, f5, f6, f7, f8, f9, f10⟩ := hp.frees11
  have HP2 := Lib.hid hp
  have HRD := Lib.hid (And.intro hrd hts)
  clear hp hrd hts
  repeat (refine seq_take_free (v := ?_) (by kernel_rfl) rfl (fun _ _ _ h => h) hHeld ?_ ?_; rotate_left; (focus (((intro w hSw; obtain ⟨hk1, hk2⟩ := Kept.cells hSw; clear hSw; go_simp) <;> with_reducible rfl); done)); (try simp only [Act.put, List.setIfInBounds_toArray, List.set_cons_zero, List.set_cons_succ]))
  refine seq_tail_free (by kernel_rfl) rfl (fun K hK => ?_)
  go_simp
  skip
  refine hK.out _ _ ?_
  clear hK K
  (try simp only [Act.put, List.setIfInBounds_toArray, List.set_cons_zero, List.set_cons_succ])
  refine seq_done ?_
  go_wp2
  refine bodyPost_ret (results_cell_row rfl _ _ w.heap.size 31 _ (0, 0) _ rfl (HP2.out.set11 _ _ _ _ _ _ _ _ _ _ _) Try.underlying31 rfl tm_size) rfl ?_
  have hlen := plainTs_len xs (d + 1)
  have hf2 := fr_set11 (Fr.refl [w.heap.size] w1) (g := w.heap.size) (by simp) (.int .i64 10) (.bool false) (.int .i64 0) (.float .f64 0) (.string ⟨#[]⟩) (.slice none 0 0) (.int .u64 0) (.slice none 0 0) (.slice A (plainTs xs (d + 1)).length cap) (.string c) (.int .i64 r)
  have hfs := hf2.size
  have hb1s := hb1.size
  have hHs := hHeld.below.size
  refine ⟨_, _, _, _, _, _, _, _, _, _, _, rfl, tmg_fields _ _ _ _ _ _ _ rows A cap _ rfl (by rw [hlen]; exact HNB.out.1) (HRD.out.1.keep ?_) (TmsG.keep ?_ _ HRD.out.2) (by omega) HNB.out.2.1 (by decide) HNB.out.2.2.1 HNB.out.2.2.2, HB0.out.trans ((hHeld.below.mono (by omega)).trans (hf2.below _ (by omega) (by simp)))⟩
  all_goals
    intro b hb
    simp at hb
    exact ⟨⟨by omega, by omega⟩, fun off => hf2.cells b off (by omega) (by simp; omega)⟩

theorem plain_all : ∀ (k : Nat) (x : V), SizeOf.sizeOf x < k → PlainAt x := by
  intro k
  induction k with
  | zero => intro x hx; omega
  | succ k ihk =>
    intro x hk
    cases x with
    | nil => exact plain_nil
    | bool b => exact plain_bool b
    | int b => exact plain_int b
    | float b => exact plain_float b
    | text b => exact plain_text b
    | bytes b => exact plain_bytes b
    | ref b => exact plain_ref b
    | list xs => exact plain_list xs (fun t ht => ihk t (by have := List.sizeOf_lt_of_mem ht; simp at hk; omega))
    | dict ns xs => exact plain_dict ns xs (fun t ht => ihk t (by have := List.sizeOf_lt_of_mem ht; simp at hk; omega))
    | recd c r ns xs => exact plain_recd c r ns xs (fun t ht => ihk t (by have := List.sizeOf_lt_of_mem ht; simp at hk; omega))
    | nothing => exact plain_nothing
    | alien => exact plain_alien
theorem plain (x : V) : PlainAt x := plain_all _ x (Nat.lt_succ_self _)
end Go.Proofs.Ythanmakakcmkeaa
