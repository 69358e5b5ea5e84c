/- tenonmake.Built: the value of a term, in memory of its own: kind by kind. -/
import Derived.Test.YthanmakakcmkeaaBuilt
namespace Go.Proofs.Ythanmakakcmkeaa
open Go.RowKit
attribute [local go_sem ↓] Go.wp_at_zero Go.wp_at_succ

theorem float_wf {f : Nat} (h : (Lit.float .f64 f).wf = true) : (Lit.float .f64 f).wf = true := h

theorem built_nil (b : Bool) (i : Int) (f : Nat) (s : ByteArray) (A5 : Option Addr) (n5 c5 : Nat) (r : Int) (A7 : Option Addr) (n7 c7 : Nat) (A8 : Option Addr) (n8 c8 : Nat) (c : ByteArray) (v : Int) (w : World) : Calls Try.prog 7 #[.agg #[.int .i64 1, .bool b, .int .i64 i, .float .f64 f, .string s, .slice A5 n5 c5, .int .u64 r, .slice A7 n7 c7, .slice A8 n8 c8, .string c, .int .i64 v]] w (fun e w' => e = .returned (.nilIface) ∧ Below w.heap.size w w') := by
  go_enter Try.func7, Try.ntmps7
  go_wp2
  go_ret
  exact ⟨rfl, (Below.refl _ _).alloc (Nat.le_refl _) _⟩

theorem built_bool (b : Bool) (i : Int) (f : Nat) (s : ByteArray) (A5 : Option Addr) (n5 c5 : Nat) (r : Int) (A7 : Option Addr) (n7 c7 : Nat) (A8 : Option Addr) (n8 c8 : Nat) (c : ByteArray) (v : Int) (w : World) : Calls Try.prog 7 #[.agg #[.int .i64 2, .bool b, .int .i64 i, .float .f64 f, .string s, .slice A5 n5 c5, .int .u64 r, .slice A7 n7 c7, .slice A8 n8 c8, .string c, .int .i64 v]] w (fun e w' => e = .returned (.iface 4 (.bool b)) ∧ Below w.heap.size w w') := by
  go_enter Try.func7, Try.ntmps7
  go_wp2
  go_ret
  exact ⟨rfl, (Below.refl _ _).alloc (Nat.le_refl _) _⟩

theorem built_int (b : Bool) (i : Int) (f : Nat) (s : ByteArray) (A5 : Option Addr) (n5 c5 : Nat) (r : Int) (A7 : Option Addr) (n7 c7 : Nat) (A8 : Option Addr) (n8 c8 : Nat) (c : ByteArray) (v : Int) (w : World) : Calls Try.prog 7 #[.agg #[.int .i64 3, .bool b, .int .i64 i, .float .f64 f, .string s, .slice A5 n5 c5, .int .u64 r, .slice A7 n7 c7, .slice A8 n8 c8, .string c, .int .i64 v]] w (fun e w' => e = .returned (.iface 2 (.int .i64 i)) ∧ Below w.heap.size w w') := by
  go_enter Try.func7, Try.ntmps7
  go_wp2
  go_ret
  exact ⟨rfl, (Below.refl _ _).alloc (Nat.le_refl _) _⟩

theorem built_float (b : Bool) (i : Int) (f : Nat) (s : ByteArray) (A5 : Option Addr) (n5 c5 : Nat) (r : Int) (A7 : Option Addr) (n7 c7 : Nat) (A8 : Option Addr) (n8 c8 : Nat) (c : ByteArray) (v : Int) (w : World) : Calls Try.prog 7 #[.agg #[.int .i64 4, .bool b, .int .i64 i, .float .f64 f, .string s, .slice A5 n5 c5, .int .u64 r, .slice A7 n7 c7, .slice A8 n8 c8, .string c, .int .i64 v]] w (fun e w' => e = .returned (.iface 25 (.float .f64 f)) ∧ Below w.heap.size w w') := by
  go_enter Try.func7, Try.ntmps7
  go_wp2
  go_ret
  exact ⟨rfl, (Below.refl _ _).alloc (Nat.le_refl _) _⟩

theorem built_text (b : Bool) (i : Int) (f : Nat) (s : ByteArray) (A5 : Option Addr) (n5 c5 : Nat) (r : Int) (A7 : Option Addr) (n7 c7 : Nat) (A8 : Option Addr) (n8 c8 : Nat) (c : ByteArray) (v : Int) (w : World) : Calls Try.prog 7 #[.agg #[.int .i64 5, .bool b, .int .i64 i, .float .f64 f, .string s, .slice A5 n5 c5, .int .u64 r, .slice A7 n7 c7, .slice A8 n8 c8, .string c, .int .i64 v]] w (fun e w' => e = .returned (.iface 9 (.string s)) ∧ Below w.heap.size w w') := by
  go_enter Try.func7, Try.ntmps7
  go_wp2
  go_ret
  exact ⟨rfl, (Below.refl _ _).alloc (Nat.le_refl _) _⟩

theorem built_ref (b : Bool) (i : Int) (f : Nat) (s : ByteArray) (A5 : Option Addr) (n5 c5 : Nat) (r : Int) (A7 : Option Addr) (n7 c7 : Nat) (A8 : Option Addr) (n8 c8 : Nat) (c : ByteArray) (v : Int) (w : World) : Calls Try.prog 7 #[.agg #[.int .i64 7, .bool b, .int .i64 i, .float .f64 f, .string s, .slice A5 n5 c5, .int .u64 r, .slice A7 n7 c7, .slice A8 n8 c8, .string c, .int .i64 v]] w (fun e w' => e = .returned (.iface 28 (.int .u64 r)) ∧ Below w.heap.size w w') := by
  go_enter Try.func7, Try.ntmps7
  go_wp2
  go_ret
  exact ⟨rfl, (Below.refl _ _).alloc (Nat.le_refl _) _⟩

theorem built_nothing (b : Bool) (i : Int) (f : Nat) (s : ByteArray) (A5 : Option Addr) (n5 c5 : Nat) (r : Int) (A7 : Option Addr) (n7 c7 : Nat) (A8 : Option Addr) (n8 c8 : Nat) (c : ByteArray) (v : Int) (w : World) : Calls Try.prog 7 #[.agg #[.int .i64 11, .bool b, .int .i64 i, .float .f64 f, .string s, .slice A5 n5 c5, .int .u64 r, .slice A7 n7 c7, .slice A8 n8 c8, .string c, .int .i64 v]] w (fun e w' => e = .returned (.iface 79 (.pointer none)) ∧ Below w.heap.size w w') := by
  go_enter Try.func7, Try.ntmps7
  go_wp2
  go_ret
  exact ⟨rfl, (Below.refl _ _).alloc (Nat.le_refl _) _⟩

theorem built_alien (k : Int) (h1 : (k == 1) = false) (h2 : (k == 2) = false) (h3 : (k == 3) = false) (h4 : (k == 4) = false) (h5 : (k == 5) = false) (h6 : (k == 6) = false) (h7 : (k == 7) = false) (h8 : (k == 8) = false) (h9 : (k == 9) = false) (h10 : (k == 10) = false) (h11 : (k == 11) = false) (b : Bool) (i : Int) (f : Nat) (s : ByteArray) (A5 : Option Addr) (n5 c5 : Nat) (r : Int) (A7 : Option Addr) (n7 c7 : Nat) (A8 : Option Addr) (n8 c8 : Nat) (c : ByteArray) (v : Int) (w : World) : Calls Try.prog 7 #[.agg #[.int .i64 k, .bool b, .int .i64 i, .float .f64 f, .string s, .slice A5 n5 c5, .int .u64 r, .slice A7 n7 c7, .slice A8 n8 c8, .string c, .int .i64 v]] w (AlienAns w) := by
  go_enter Try.func7, Try.ntmps7
  go_wp2_with (go_at_call 29; refine (alien_any _ _).mono ?_; rintro e w1 ⟨T, u, rfl, hT, hb⟩)
  go_ret
  exact ⟨T, u, rfl, hT, ((Below.refl _ _).alloc (Nat.le_refl _) _).trans (hb.mono (by simp))⟩

theorem u8_info : (Try.prog.info? 5).map (fun i => (i.zero, i.size, i.bytes)) = some (some (.int .u8 0), 1, 1) := by kernel_rfl
theorem any_info : (Try.prog.info? 20).map (fun i => (i.zero, i.size, i.bytes)) = some (some .nilIface, 1, 16) := by kernel_rfl

def NewBytes (w : World) (l : List UInt8) (e : Ending) (w' : World) : Prop := ∃ g cap, e = .returned (.iface 26 (.slice (some ⟨g, 0, none⟩) l.length cap)) ∧ Row w' 5 1 g cap l.length (l.map u8v) ∧ w.heap.size ≤ g ∧ Below w.heap.size w w'

theorem u8_one (l : List UInt8) : ∀ u ∈ l.map u8v, u.oneCell' = true := by
  intro u hu
  obtain ⟨c, _, rfl⟩ := List.mem_map.1 hu
  rfl

set_option maxHeartbeats 400000 in
theorem built_bytes (l : List UInt8) (B : Nat) (b : Bool) (i : Int) (f : Nat) (s : ByteArray) (A5 : Option Addr) (c5 : Nat) (r : Int) (A7 : Option Addr) (n7 c7 : Nat) (A8 : Option Addr) (n8 c8 : Nat) (c : ByteArray) (v : Int) (w : World) (hB : B ≤ w.heap.size) (hr : Rd w B 1 A5 l.length (l.map u8v)) (hl : l.length ≤ 1048576) : Calls Try.prog 7 #[.agg #[.int .i64 6, .bool b, .int .i64 i, .float .f64 f, .string s, .slice A5 l.length c5, .int .u64 r, .slice A7 n7 c7, .slice A8 n8 c8, .string c, .int .i64 v]] w (NewBytes w l) := by
  have HR := Lib.hid hr
  clear hr
  go_enter Try.func7, Try.ntmps7
  go_wp2_with (at_builtin; refine wpList_pushes (by rfl) _ _ _ (by rfl) 5 _ 1 1 Try.underlying26 u8_info rfl (by omega) (w.heap.size + 1) 0 0 [] (by rfl) (by simpa using Row.made (w.alloc _) 5 1 #[] 0 (by decide) rfl) B _ _ _ _ (by rfl) ((HR.out.below ((Below.refl _ _).alloc (Nat.le_refl _) _) hB).below ((Below.refl _ _).alloc (Nat.le_refl _) _) (by simp; omega)) (u8_one l) (by unfold maxLen; omega) (by omega) ?_; intro g cap w1 hrow hf hg)
  go_ret
  refine ⟨g, cap, by simp, by simpa using hrow, ?_, ?_⟩
  · simp at hg; omega
  · exact (((Below.refl _ _).alloc (Nat.le_refl _) _).alloc (by simp) _).trans (hf.below _ (by simp; omega) (by simp))

def NewList (w : World) (l : List Tm) (e : Ending) (w' : World) : Prop := ∃ g cap us S, e = .returned (.iface 75 (.slice (some ⟨g, 0, none⟩) l.length cap)) ∧ Row w' 20 1 g cap l.length us ∧ VsAt w' (builds l) us S ∧ (g :: S).Nodup ∧ (∀ b ∈ g :: S, w.heap.size ≤ b) ∧ Below w.heap.size w w'

theorem flat_get {rows : List (List Value)} (hr : ∀ r ∈ rows, r.length = 11) (i : Nat) (r : List Value) (hi : rows[i]? = some r) (j : Nat) (hj : j < 11) : rows.flatten[i * 11 + j]? = r[j]? := by
  induction rows generalizing i with
  | nil => simp at hi
  | cons q rows ih =>
    have hq : q.length = 11 := hr q (by simp)
    cases i with
    | zero =>
      simp at hi
      subst hi
      simp only [List.flatten_cons, Nat.zero_mul, Nat.zero_add]
      rw [List.getElem?_append_left (by omega)]
    | succ i =>
      have h := ih (fun r hr' => hr r (by simp [hr'])) i (by simpa using hi)
      simp only [List.flatten_cons]
      rw [List.getElem?_append_right (by omega)]
      have e : (i + 1) * 11 + j - q.length = i * 11 + j := by omega
      rw [e]
      exact h

set_option maxRecDepth 100000 in
set_option maxHeartbeats 1000000 in
theorem built_list (l : List Tm) (rows : List (List Value)) (B : Nat) (b : Bool) (i : Int) (f : Nat) (s : ByteArray) (A5 : Option Addr) (n5 c5 : Nat) (r : Int) (A7 : Option Addr) (c7 : Nat) (A8 : Option Addr) (n8 c8 : Nat) (c : ByteArray) (v : Int) (w : World) (hB : B ≤ w.heap.size) (hr : Rd w B 11 A7 l.length rows.flatten) (hrows : TmsAt w B l rows) (hl : l.length ≤ 1048576) (ih : ∀ t ∈ l, BuiltAt t) :
    Calls Try.prog 7 #[.agg #[.int .i64 8, .bool b, .int .i64 i, .float .f64 f, .string s, .slice A5 n5 c5, .int .u64 r, .slice A7 l.length c7, .slice A8 n8 c8, .string c, .int .i64 v]] w (NewList w l) := by
  go_enter Try.func7, Try.ntmps7
  go_wp2_with fail
  obtain ⟨wb, hwb⟩ : ∃ wb, wb = w.alloc (.cells #[.int .i64 8, .bool b, .int .i64 i, .float .f64 f, .string s, .slice A5 n5 c5, .int .u64 r, .slice A7 l.length c7, .slice A8 n8 c8, .string c, .int .i64 v] 31) := ⟨_, rfl⟩
  have hbox : wb.cell? ⟨w.heap.size, 7, none⟩ = some (.slice A7 l.length c7) := by rw [hwb, World.cell?_alloc_new]; rfl
  have hws : wb.heap.size = w.heap.size + 1 := by rw [hwb]; simp
  have hbw : Below w.heap.size w wb := by rw [hwb]; exact (Below.refl _ _).alloc (Nat.le_refl _) _
  rw [← hwb]
  have e1 : w.heap.size + 1 = wb.heap.size := hws.symm
  rw [e1]
  have HBOX := Lib.hid hbox
  have HWS := Lib.hid hws
  have HBW := Lib.hid hbw
  clear hwb hbox hws hbw e1
  go_loopw [3, 4] (fun v3 v4 wr => ∃ (m g cap : Nat) (us : List Value) (S : List Nat), v4 = .int .i64 m ∧ v3 = .slice (some ⟨g, 0, none⟩) m cap ∧ m ≤ l.length ∧
      Acc wb wr 20 1 g cap m us (builds (l.take m)) us S) (fun _ v4 _ => l.length - (intOf v4).toNat)
  case atStart => exact ⟨0, wb.heap.size, 0, [], [], rfl, rfl, Nat.zero_le _, by simpa [builds] using Acc.start wb 20 1⟩
  case round =>
    obtain ⟨m, g, cap, us, S, rfl, rfl, hm, hacc⟩ := hrel
    have hbox : wr.cell? ⟨w.heap.size, 7, none⟩ = some (.slice A7 l.length c7) := (hacc.below.cell (p := ⟨w.heap.size, 7, none⟩) (by have := HWS.out; simp; omega)).trans HBOX.out
    have hbl : Below w.heap.size w wr := HBW.out.trans (hacc.below.mono (by have := HWS.out; omega))
    have HACC := Lib.hid hacc
    clear hacc
    by_cases hlt : m < l.length
    · obtain ⟨o, off, rfl, ho, hcell⟩ := hr.2 (by omega)
      obtain ⟨hrl, hget⟩ := TmsAt.get l hrows
      obtain ⟨q, hq, htr⟩ := hget m l[m] (by simp [hlt])
      have hr11 : ∀ r ∈ rows, r.length = 11 := TmsAt.len l hrows
      have hcells : wr.rangeAt o (off + m * 11) q := by
        intro j x hj
        have hj11 : j < 11 := by have := (List.getElem?_eq_some_iff.1 hj).1; rw [hr11 q (List.mem_of_getElem? hq)] at this; exact this
        rw [hbl.cell (p := ⟨o, off + m * 11 + j, none⟩) (show o < _ by omega)]
        have := hcell (m * 11 + j) (by omega)
        rw [flat_get hr11 m q hq j hj11] at this
        rw [show off + m * 11 + j = off + (m * 11 + j) by omega, this]
        exact hj
      have htw : TmAt wr B l[m] q := htr.below hbl hB
      obtain ⟨r0, r1, r2, r3, r4, r5, r6, r7, r8, r9, r10, rfl⟩ := list11 (hr11 q (List.mem_of_getElem? hq))
      have hc0 : wr.cell? ⟨o, off + m * 11, none⟩ = some r0 := hcells 0 r0 rfl
      have hc1 : wr.cell? ⟨o, off + m * 11 + 1, none⟩ = some r1 := hcells 1 r1 rfl
      have hc2 : wr.cell? ⟨o, off + m * 11 + 2, none⟩ = some r2 := hcells 2 r2 rfl
      have hc3 : wr.cell? ⟨o, off + m * 11 + 3, none⟩ = some r3 := hcells 3 r3 rfl
      have hc4 : wr.cell? ⟨o, off + m * 11 + 4, none⟩ = some r4 := hcells 4 r4 rfl
      have hc5 : wr.cell? ⟨o, off + m * 11 + 5, none⟩ = some r5 := hcells 5 r5 rfl
      have hc6 : wr.cell? ⟨o, off + m * 11 + 6, none⟩ = some r6 := hcells 6 r6 rfl
      have hc7 : wr.cell? ⟨o, off + m * 11 + 7, none⟩ = some r7 := hcells 7 r7 rfl
      have hc8 : wr.cell? ⟨o, off + m * 11 + 8, none⟩ = some r8 := hcells 8 r8 rfl
      have hc9 : wr.cell? ⟨o, off + m * 11 + 9, none⟩ = some r9 := hcells 9 r9 rfl
      have hc10 : wr.cell? ⟨o, off + m * 11 + 10, none⟩ = some r10 := hcells 10 r10 rfl
      have hih := ih l[m] (List.getElem_mem _)
      clear hr hcell hget hq hrows htr hr11 hcells ih
      by_cases hnil : build l[m] = .nil
      · have HIH := Lib.hid (fun cs w B hB h => (hih cs w B hB h).mono fun e w' h => NewV.none (hnil ▸ h))
        have HTW := Lib.hid htw
        clear hih htw
        go_wp2_with (first | (go_at_call 7; refine (HIH.out _ _ B (Nat.le_trans hB hbl.size) HTW.out).mono ?_; rintro e w1 ⟨rfl, hb1⟩) | (at_builtin; refine wpList_push (by rfl) _ _ _ (by rfl) 20 _ 1 16 Try.underlying75 any_info rfl (by omega) g cap m us (by rfl) ((HACC.out.row.below hb1).alloc _) w1.heap.size 1 1 #[.nilIface] (by rfl) (by rfl) (Blk.new _ _ _) (by simp [Value.oneCell']) (by omega) (by unfold maxLen; omega) (by omega) ?_; intro g2 cap2 w2 hrow2 hf2 hg2))
        go_roundw
        case rel =>
          refine ⟨m + 1, g2, cap2, us ++ [.nilIface], S ++ [], by go_num, rfl, by omega, ?_⟩
          rw [List.take_succ_eq_append_getElem hlt, builds_append]
          simp only [builds, hnil]
          exact HACC.out.step (wr := wr) (w1 := w1) hb1 (v := .nilIface) (S1 := []) (by simp [VAt]) (by simp) (by simp) hrow2 hf2 hg2
        case measure => simp [intOf]; omega
      · have HIH := Lib.hid (fun cs w B hB h => (hih cs w B hB h).mono fun e w' h => NewV.iface hnil h)
        have HTW := Lib.hid htw
        clear hih htw
        go_wp2_with (first | (go_at_call 7; refine (HIH.out _ _ B (Nat.le_trans hB hbl.size) HTW.out).mono ?_; rintro e w1 ⟨T, u, S1, rfl, hv, hnd1, hge1, hb1⟩) | (at_builtin; refine wpList_push (by rfl) _ _ _ (by rfl) 20 _ 1 16 Try.underlying75 any_info rfl (by omega) g cap m us (by rfl) ((HACC.out.row.below hb1).alloc _) w1.heap.size 1 1 #[.iface T u] (by rfl) (by rfl) (Blk.new _ _ _) (by simp [Value.oneCell']) (by omega) (by unfold maxLen; omega) (by omega) ?_; intro g2 cap2 w2 hrow2 hf2 hg2))
        go_roundw
        case rel =>
          refine ⟨m + 1, g2, cap2, us ++ [.iface T u], S ++ S1, by go_num, rfl, by omega, ?_⟩
          rw [List.take_succ_eq_append_getElem hlt, builds_append]
          simp only [builds]
          exact HACC.out.step (wr := wr) (w1 := w1) hb1 hv hnd1 hge1 hrow2 hf2 hg2
        case measure => simp [intOf]; omega
    · obtain rfl : m = l.length := by omega
      go_wp2
      go_ret
      have hacc := HACC.out
      have hws := HWS.out
      rw [List.take_of_length_le (by omega)] at hacc
      exact ⟨g, cap, us, S, rfl, hacc.row, hacc.vals, hacc.nodup, fun b hb => by have := hacc.new b hb; omega, hbl⟩

def NewDict (w : World) (ns : List ByteArray) (vs : List Tm) (e : Ending) (w' : World) : Prop := ∃ g cap us S, e = .returned (.slice (some ⟨g, 0, none⟩) vs.length cap) ∧ Row w' 112 2 g cap vs.length (fldCells ns us) ∧ VsAt w' (builds vs) us S ∧ (g :: S).Nodup ∧ (∀ b ∈ g :: S, w.heap.size ≤ b) ∧ Below w.heap.size w w'
def NewDictI (w : World) (ns : List ByteArray) (vs : List Tm) (e : Ending) (w' : World) : Prop := ∃ g cap us S, e = .returned (.iface 77 (.slice (some ⟨g, 0, none⟩) vs.length cap)) ∧ Row w' 112 2 g cap vs.length (fldCells ns us) ∧ VsAt w' (builds vs) us S ∧ (g :: S).Nodup ∧ (∀ b ∈ g :: S, w.heap.size ≤ b) ∧ Below w.heap.size w w'
def NewRec (w : World) (c : ByteArray) (v : Int) (ns : List ByteArray) (vs : List Tm) (e : Ending) (w' : World) : Prop := ∃ p g cap us S, e = .returned (.iface 79 (.pointer (some ⟨p, 0, none⟩))) ∧ Blk w' p 81 #[.string c, .int .i64 v, .slice (some ⟨g, 0, none⟩) vs.length cap] ∧ Row w' 112 2 g cap vs.length (fldCells ns us) ∧ VsAt w' (builds vs) us S ∧ (p :: g :: S).Nodup ∧ (∀ b ∈ p :: g :: S, w.heap.size ≤ b) ∧ Below w.heap.size w w'

theorem built_dict (ns : List ByteArray) (vs : List Tm) (rows : List (List Value)) (B : Nat) (b : Bool) (i : Int) (f : Nat) (s : ByteArray) (A5 : Option Addr) (n5 c5 : Nat) (r : Int) (A7 : Option Addr) (n7 c7 : Nat) (A8 : Option Addr) (c8 : Nat) (c : ByteArray) (v : Int) (w : World) (hB : B ≤ w.heap.size) (hrd : Rd w B 12 A8 vs.length (entRows ns rows)) (hrows : TmsAt w B vs rows) (hns : ns.length = vs.length) (hlen : vs.length ≤ 1048576) (ih : ∀ t ∈ vs, BuiltAt t) :
    Calls Try.prog 7 #[.agg #[.int .i64 9, .bool b, .int .i64 i, .float .f64 f, .string s, .slice A5 n5 c5, .int .u64 r, .slice A7 n7 c7, .slice A8 vs.length c8, .string c, .int .i64 v]] w (NewDictI w ns vs) := by
  have hc : ∀ w', Below w.heap.size w w' → Calls Try.prog 28 #[.slice A8 vs.length c8] w' (NewDict w' ns vs) := fun w' hb => dict_any ns vs rows A8 c8 w' B (Nat.le_trans hB hb.size) (hrd.below hb hB) (TmsAt.keep (fun b off hlt => hb.cell (p := ⟨b, off, none⟩) (show b < _ by omega)) vs hrows) hns hlen ih
  have HC := Lib.hid hc
  clear hc hrd hrows ih
  go_enter Try.func7, Try.ntmps7
  go_wp2_with (go_at_call 28; refine (HC.out _ ((Below.refl _ _).alloc (Nat.le_refl _) _)).mono ?_; rintro e w1 ⟨g, cap, us, S, rfl, hrow, hvs, hnd, hnew, hb⟩)
  go_ret
  exact ⟨g, cap, us, S, rfl, hrow, hvs, hnd, fun b hm => by have := hnew b hm; simp at this; omega, ((Below.refl _ _).alloc (Nat.le_refl _) _).trans (hb.mono (by simp))⟩

set_option maxRecDepth 100000 in
set_option maxHeartbeats 1000000 in
theorem built_recd (ns : List ByteArray) (vs : List Tm) (rows : List (List Value)) (B : Nat) (b : Bool) (i : Int) (f : Nat) (s : ByteArray) (A5 : Option Addr) (n5 c5 : Nat) (r : Int) (A7 : Option Addr) (n7 c7 : Nat) (A8 : Option Addr) (c8 : Nat) (c : ByteArray) (v : Int) (w : World) (hB : B ≤ w.heap.size) (hrd : Rd w B 12 A8 vs.length (entRows ns rows)) (hrows : TmsAt w B vs rows) (hns : ns.length = vs.length) (hlen : vs.length ≤ 1048576) (ih : ∀ t ∈ vs, BuiltAt t) :
    Calls Try.prog 7 #[.agg #[.int .i64 10, .bool b, .int .i64 i, .float .f64 f, .string s, .slice A5 n5 c5, .int .u64 r, .slice A7 n7 c7, .slice A8 vs.length c8, .string c, .int .i64 v]] w (NewRec w c v ns vs) := by
  have hc : ∀ w', Below w.heap.size w w' → Calls Try.prog 28 #[.slice A8 vs.length c8] w' (NewDict w' ns vs) := fun w' hb => dict_any ns vs rows A8 c8 w' B (Nat.le_trans hB hb.size) (hrd.below hb hB) (TmsAt.keep (fun b off hlt => hb.cell (p := ⟨b, off, none⟩) (show b < _ by omega)) vs hrows) hns hlen ih
  have HC := Lib.hid hc
  clear hc hrd hrows ih
  go_enter Try.func7, Try.ntmps7
  go_wp2_with fail
  go_region_held3 (fun w' => w'.cell? ⟨w.heap.size, 9, none⟩ = some (.string c) ∧ w'.cell? ⟨w.heap.size, 10, none⟩ = some (.int .i64 v) ∧ w'.cell? ⟨w.heap.size, 8, none⟩ = some (.slice A8 vs.length c8))
    (first | go_keep | (go_split_ands; refine ⟨?_, ?_, ?_⟩ <;> (refine cell_below hb ?_; assumption)) | (go_split_ands; refine ⟨?_, ?_, ?_⟩ <;> (refine cell_alloc _ ?_; assumption)))
    (first | (go_at_call 28; refine (HC.out _ (((Below.refl _ _).alloc (Nat.le_refl _) _).drew)).mono ?_; rintro e w1 ⟨g, cap, us, S, rfl, hrow, hvs, hnd, hnew, hb⟩))
  go_wp2
  go_ret
  have hb' := below_undrew hb
  have hal : Below w1.heap.size w1 (w1.alloc (.cells #[.string c, .int .i64 v, .slice (some ⟨g, 0, none⟩) vs.length cap] 81)) := (Below.refl _ _).alloc (Nat.le_refl _) _
  refine ⟨w1.heap.size, g, cap, us, S, rfl, Blk.new _ _ _, hrow.below hal, hvs.below hal, ?_, ?_, (((Below.refl _ _).alloc (Nat.le_refl _) _).trans (hb'.mono (by simp))).alloc (by have := hb'.size; simp at this; omega) _⟩
  · refine List.nodup_cons.2 ⟨fun hm => ?_, hnd⟩
    rcases List.mem_cons.1 hm with h | h
    · have := hrow.lt; omega
    · have := VsAt.lt _ hvs _ h; omega
  · intro b hm
    have h1 := hb'.size
    simp at h1
    rcases List.mem_cons.1 hm with rfl | h
    · omega
    · have := hnew b h; simp at this; omega

theorem built_any : ∀ (n : Nat) (t : Tm), SizeOf.sizeOf t < n → BuiltAt t := by
  intro n
  induction n with
  | zero => intro t h; omega
  | succ n ih =>
    intro t hn
    obtain ⟨k, b, i, f, s, bs, r, l, ns, vs, c, v⟩ := t
    have ihl : ∀ t ∈ l, BuiltAt t := fun t ht => ih t (by have := List.sizeOf_lt_of_mem ht; simp at hn; omega)
    have ihv : ∀ t ∈ vs, BuiltAt t := fun t ht => ih t (by have := List.sizeOf_lt_of_mem ht; simp at hn; omega)
    intro cs w B hB h
    simp only [TmAt] at h
    obtain ⟨A5, c5, A7, c7, A8, c8, rfl, h5, ⟨rows7, h7, h7'⟩, hns, ⟨rows8, h8, h8'⟩, ⟨b1, b2, b3, b4, b5, b6⟩, w1, w2, w3, w4, w5⟩ := h
    unfold build
    by_cases k1 : k = 1
    · subst k1; simp only [if_true]
      exact (built_nil b i f s A5 _ c5 r A7 _ c7 A8 _ c8 c v w).mono fun e w' ⟨he, hb⟩ => ⟨_, [], he, by simp [VAt], by simp, by simp, hb⟩
    by_cases k2 : k = 2
    · subst k2; simp only [if_true, if_neg k1]
      exact (built_bool b i f s A5 _ c5 r A7 _ c7 A8 _ c8 c v w).mono fun e w' ⟨he, hb⟩ => ⟨_, [], he, by simp [VAt], by simp, by simp, hb⟩
    by_cases k3 : k = 3
    · subst k3; simp only [if_true, if_neg k1, if_neg k2]
      exact (built_int b i f s A5 _ c5 r A7 _ c7 A8 _ c8 c v w).mono fun e w' ⟨he, hb⟩ => ⟨_, [], he, by simp [VAt, w2], by simp, by simp, hb⟩
    by_cases k4 : k = 4
    · subst k4; simp only [if_true, if_neg k1, if_neg k2, if_neg k3]
      exact (built_float b i f s A5 _ c5 r A7 _ c7 A8 _ c8 c v w).mono fun e w' ⟨he, hb⟩ => ⟨_, [], he, by simp [VAt, w3], by simp, by simp, hb⟩
    by_cases k5 : k = 5
    · subst k5; simp only [if_true, if_neg k1, if_neg k2, if_neg k3, if_neg k4]
      exact (built_text b i f s A5 _ c5 r A7 _ c7 A8 _ c8 c v w).mono fun e w' ⟨he, hb⟩ => ⟨_, [], he, by simp [VAt, b1], by simp, by simp, hb⟩
    by_cases k6 : k = 6
    · subst k6; simp only [if_true, if_neg k1, if_neg k2, if_neg k3, if_neg k4, if_neg k5]
      refine (built_bytes bs B b i f s A5 c5 r A7 _ c7 A8 _ c8 c v w hB h5 b2).mono fun e w' ⟨g, cap, he, hr, hg, hb⟩ => ⟨_, [g], he, ?_, by simp, by simpa using hg, hb⟩
      simp only [VAt]
      exact ⟨g, cap, rfl, hr, rfl, b2⟩
    by_cases k7 : k = 7
    · subst k7; simp only [if_true, if_neg k1, if_neg k2, if_neg k3, if_neg k4, if_neg k5, if_neg k6]
      exact (built_ref b i f s A5 _ c5 r A7 _ c7 A8 _ c8 c v w).mono fun e w' ⟨he, hb⟩ => ⟨_, [], he, by simp [VAt, w4], by simp, by simp, hb⟩
    by_cases k8 : k = 8
    · subst k8; simp only [if_true, if_neg k1, if_neg k2, if_neg k3, if_neg k4, if_neg k5, if_neg k6, if_neg k7]
      refine (built_list l rows7 B b i f s A5 _ c5 r A7 c7 A8 _ c8 c v w hB h7 h7' b3 ihl).mono fun e w' ⟨g, cap, us, S, he, hr, hv, hnd, hnew, hb⟩ => ⟨_, g :: S, he, ?_, hnd, hnew, hb⟩
      have hlen : (builds l).length = l.length := by simp [builds_map]
      simp only [VAt]
      exact ⟨g, cap, us, S, by rw [hlen], by rw [hlen]; exact hr, hv, rfl, by omega⟩
    by_cases k9 : k = 9
    · subst k9; simp only [if_true, if_neg k1, if_neg k2, if_neg k3, if_neg k4, if_neg k5, if_neg k6, if_neg k7, if_neg k8]
      refine (built_dict ns vs rows8 B b i f s A5 _ c5 r A7 _ c7 A8 c8 c v w hB h8 h8' hns b4 ihv).mono fun e w' ⟨g, cap, us, S, he, hr, hv, hnd, hnew, hb⟩ => ⟨_, g :: S, he, ?_, hnd, hnew, hb⟩
      have hlen : (builds vs).length = vs.length := by simp [builds_map]
      simp only [VAt]
      exact ⟨g, cap, us, S, by rw [hlen], by rw [hlen]; exact hr, hv, rfl, by omega, by omega, b6⟩
    by_cases k10 : k = 10
    · subst k10; simp only [if_true, if_neg k1, if_neg k2, if_neg k3, if_neg k4, if_neg k5, if_neg k6, if_neg k7, if_neg k8, if_neg k9]
      refine (built_recd ns vs rows8 B b i f s A5 _ c5 r A7 _ c7 A8 c8 c v w hB h8 h8' hns b4 ihv).mono fun e w' ⟨p, g, cap, us, S, he, hp, hr, hv, hnd, hnew, hb⟩ => ⟨_, p :: g :: S, he, ?_, hnd, hnew, hb⟩
      have hlen : (builds vs).length = vs.length := by simp [builds_map]
      simp only [VAt]
      exact ⟨p, g, cap, us, S, rfl, by rw [hlen]; exact hp, by rw [hlen]; exact hr, hv, rfl, by omega, by omega, b6, b5, w5⟩
    by_cases k11 : k = 11
    · subst k11; simp only [if_true, if_neg k1, if_neg k2, if_neg k3, if_neg k4, if_neg k5, if_neg k6, if_neg k7, if_neg k8, if_neg k9, if_neg k10]
      exact (built_nothing b i f s A5 _ c5 r A7 _ c7 A8 _ c8 c v w).mono fun e w' ⟨he, hb⟩ => ⟨_, [], he, by simp [VAt], by simp, by simp, hb⟩
    simp only [if_neg k1, if_neg k2, if_neg k3, if_neg k4, if_neg k5, if_neg k6, if_neg k7, if_neg k8, if_neg k9, if_neg k10, if_neg k11]
    refine (built_alien k (by simpa using k1) (by simpa using k2) (by simpa using k3) (by simpa using k4) (by simpa using k5) (by simpa using k6) (by simpa using k7) (by simpa using k8) (by simpa using k9) (by simpa using k10) (by simpa using k11) b i f s A5 _ c5 r A7 _ c7 A8 _ c8 c v w).mono fun e w' ⟨T, u, he, hT, hb⟩ => ⟨_, [], he, ?_, by simp, by simp, hb⟩
    simp only [VAt]
    exact ⟨T, u, rfl, hT, trivial⟩

theorem built (t : Tm) : BuiltAt t := built_any _ t (Nat.lt_succ_self _)

end Go.Proofs.Ythanmakakcmkeaa
