/- tenonref01.Parts: the terms that a term holds. -/
import Derived.Test.YthanmakakcmkeaaRown2
namespace Go.Proofs.Ythanmakakcmkeaa
open Go.RowKit

theorem range11 {w : World} {b o : Nat} {r0 r1 r2 r3 r4 r5 r6 r7 r8 r9 r10 : Value} (h : w.rangeAt b o [r0, r1, r2, r3, r4, r5, r6, r7, r8, r9, r10]) :
    w.cell? ⟨b, o, none⟩ = some r0 ∧ w.cell? ⟨b, o + 1, none⟩ = some r1 ∧ w.cell? ⟨b, o + 2, none⟩ = some r2 ∧ w.cell? ⟨b, o + 3, none⟩ = some r3 ∧ w.cell? ⟨b, o + 4, none⟩ = some r4 ∧ w.cell? ⟨b, o + 5, none⟩ = some r5 ∧
    w.cell? ⟨b, o + 6, none⟩ = some r6 ∧ w.cell? ⟨b, o + 7, none⟩ = some r7 ∧ w.cell? ⟨b, o + 8, none⟩ = some r8 ∧ w.cell? ⟨b, o + 9, none⟩ = some r9 ∧ w.cell? ⟨b, o + 10, none⟩ = some r10 :=
  ⟨h 0 r0 rfl, h 1 r1 rfl, h 2 r2 rfl, h 3 r3 rfl, h 4 r4 rfl, h 5 r5 rfl, h 6 r6 rfl, h 7 r7 rfl, h 8 r8 rfl, h 9 r9 rfl, h 10 r10 rfl⟩

theorem TmAt.one {w : World} {B : Nat} : ∀ (t : Tm) {cs : List Value}, TmAt w B t cs → ∀ u ∈ cs, u.oneCell' = true
  | .mk .., cs, h => by
    simp only [TmAt] at h
    obtain ⟨A5, c5, A7, c7, A8, c8, rfl, _⟩ := h
    intro u hu
    simp at hu
    rcases hu with rfl | rfl | rfl | rfl | rfl | rfl | rfl | rfl | rfl | rfl | rfl <;> rfl

theorem TmsAt.one {w : World} {B : Nat} (ts : List Tm) {rows : List (List Value)} (h : TmsAt w B ts rows) {k : Nat} {r : List Value} (hr : rows[k]? = some r) : ∀ u ∈ r, u.oneCell' = true := by
  obtain ⟨hl, hg⟩ := TmsAt.get ts h
  have hk : k < rows.length := (List.getElem?_eq_some_iff.1 hr).1
  obtain ⟨r', e, h'⟩ := hg k ts[k] (List.getElem?_eq_getElem (by omega))
  rw [hr] at e
  injection e with e
  rw [e]
  exact TmAt.one _ h'

theorem TmsAt.below {w w' : World} {B C : Nat} {ts : List Tm} {rows : List (List Value)} (h : TmsAt w B ts rows) (hb : Below C w w') (hC : B ≤ C) : TmsAt w' B ts rows :=
  TmsAt.keep (fun b off hlt => hb.cell (p := ⟨b, off, none⟩) (show b < C by omega)) ts h

def kidsT : Tm → List Tm
  | .mk k _ _ _ _ _ _ l _ vs _ _ => if k = 8 then l else if k = 9 ∨ k = 10 then vs else []

/-- the terms ts as a slice, in memory below B or newer than D -/
def TmsGive (B D : Nat) (ts : List Tm) (e : Ending) (w' : World) : Prop := ∃ A c rows, e = .returned (.slice A ts.length c) ∧ (∀ r ∈ rows, r.length = 11) ∧ TmsAt w' B ts rows ∧
  (0 < ts.length → ∃ b off, A = some ⟨b, off, none⟩ ∧ (b < B ∨ D ≤ b) ∧ b < w'.heap.size ∧ ∀ j r, rows[j]? = some r → w'.rangeAt b (off + j * 11) r)

theorem term_info : (Try.prog.info? 31).map (fun i => (i.zero, i.size, i.bytes)) = some (some (.agg #[.int .i64 0, .bool false, .int .i64 0, .float .f64 0, .string ByteArray.empty, .slice none 0 0, .int .u64 0, .slice none 0 0, .slice none 0 0, .string ByteArray.empty, .int .i64 0]), 11, 152) := by kernel_rfl

theorem flat_range {w : World} {B n b off : Nat} {rows : List (List Value)} (hr : Rd w B 11 (some ⟨b, off, none⟩) n rows.flatten) (h11 : ∀ r ∈ rows, r.length = 11) (hl : rows.length = n) : ∀ j r, rows[j]? = some r → w.rangeAt b (off + j * 11) r := by
  intro j r hj i v hi
  have hjl : j < rows.length := (List.getElem?_eq_some_iff.1 hj).1
  have hi11 : i < 11 := by have := (List.getElem?_eq_some_iff.1 hi).1; rw [h11 r (List.mem_of_getElem? hj)] at this; exact this
  obtain ⟨b', off', he, _, hc⟩ := hr.2 (by omega)
  simp only [Option.some.injEq, Addr.mk.injEq, and_true] at he
  obtain ⟨rfl, rfl⟩ := he
  have h := hc (j * 11 + i) (by omega)
  rw [flat_get h11 j r hj i hi11] at h
  rw [show off + j * 11 + i = off + (j * 11 + i) by omega, h]
  exact hi

section
variable (k : Int) (b : Bool) (i : Int) (f : Nat) (s : ByteArray) (A5 : Option Addr) (n5 c5 : Nat) (r : Int) (A7 : Option Addr) (n7 c7 : Nat) (A8 : Option Addr) (n8 c8 : Nat) (c : ByteArray) (v : Int) (w : World)
theorem rparts_list : Calls Try.prog 73 #[.agg #[.int .i64 8, .bool b, .int .i64 i, .float .f64 f, .string s, .slice A5 n5 c5, .int .u64 r, .slice A7 n7 c7, .slice A8 n8 c8, .string c, .int .i64 v]] w (fun e w' => e = .returned (.slice A7 n7 c7) ∧ w' = w.alloc (.cells #[.int .i64 8, .bool b, .int .i64 i, .float .f64 f, .string s, .slice A5 n5 c5, .int .u64 r, .slice A7 n7 c7, .slice A8 n8 c8, .string c, .int .i64 v] 31)) := by
  go_enter Try.func73, Try.ntmps73
  go_wp2_with fail
  go_ret
  exact ⟨rfl, rfl⟩
theorem rparts_none (h8 : (k == 8) = false) (h9 : (k == 9) = false) (h10 : (k == 10) = false) : Calls Try.prog 73 #[.agg #[.int .i64 k, .bool b, .int .i64 i, .float .f64 f, .string s, .slice A5 n5 c5, .int .u64 r, .slice A7 n7 c7, .slice A8 n8 c8, .string c, .int .i64 v]] w (fun e w' => (∃ g, e = .returned (.slice (some ⟨g, 0, none⟩) 0 0)) ∧ Below w.heap.size w w') := by
  go_enter Try.func73, Try.ntmps73
  go_wp2_with fail
  go_ret
  exact ⟨⟨_, rfl⟩, ((Below.refl _ _).alloc (Nat.le_refl _) _).alloc (by simp) _⟩
end

set_option maxRecDepth 100000 in
set_option maxHeartbeats 2000000 in
theorem rparts_9 (vs : List Tm) (ns : List ByteArray) (rows : List (List Value)) (B : Nat) (b : Bool) (i : Int) (f : Nat) (s : ByteArray) (A5 : Option Addr) (n5 c5 : Nat) (r : Int) (A7 : Option Addr) (n7 c7 : Nat) (A8 : Option Addr) (c8 : Nat) (c : ByteArray) (v : Int) (w : World) (hB : B ≤ w.heap.size)
    (hr : Rd w B 12 A8 vs.length (entRows ns rows)) (hrows : TmsAt w B vs rows) (hns : ns.length = vs.length) (hlen : vs.length ≤ 1048576) :
    Calls Try.prog 73 #[.agg #[.int .i64 9, .bool b, .int .i64 i, .float .f64 f, .string s, .slice A5 n5 c5, .int .u64 r, .slice A7 n7 c7, .slice A8 vs.length c8, .string c, .int .i64 v]] w (fun e w' => (∃ g cap, e = .returned (.slice (some ⟨g, 0, none⟩) vs.length cap) ∧ Row w' 31 11 g cap vs.length rows.flatten ∧ w.heap.size ≤ g) ∧ Below w.heap.size w w') := by
  go_enter Try.func73, Try.ntmps73
  go_wp2_with fail
  obtain ⟨wb, hwb⟩ : ∃ wb, wb = w.alloc (.cells #[.int .i64 9, .bool b, .int .i64 i, .float .f64 f, .string s, .slice A5 n5 c5, .int .u64 r, .slice A7 n7 c7, .slice A8 vs.length c8, .string c, .int .i64 v] 31) := ⟨_, rfl⟩
  have hbox : wb.cell? ⟨w.heap.size, 8, none⟩ = some (.slice A8 vs.length c8) := by rw [hwb, World.cell?_alloc_new]; rfl
  have hws : wb.heap.size = w.heap.size + 1 := by rw [hwb]; simp
  have hbw : Below w.heap.size w wb := by rw [hwb]; exact (Below.refl _ _).alloc (Nat.le_refl _) _
  rw [← hwb]
  have e1 : w.heap.size + 1 = wb.heap.size := hws.symm
  rw [e1]
  have HBOX := Lib.hid hbox
  have HWS := Lib.hid hws
  have HBW := Lib.hid hbw
  clear hwb hbox hws hbw e1
  go_loopw [3, 4] (fun v3 v4 wr => ∃ (m g cap : Nat), v4 = .int .i64 m ∧ v3 = .slice (some ⟨g, 0, none⟩) m cap ∧ m ≤ vs.length ∧ Row wr 31 11 g cap m (rows.take m).flatten ∧ wb.heap.size ≤ g ∧ Below wb.heap.size wb wr) (fun _ v4 _ => vs.length - (intOf v4).toNat)
  case atStart => exact ⟨0, wb.heap.size, 0, rfl, rfl, Nat.zero_le _, by simpa using Row.made wb 31 11 #[] 0 (by decide) (by simp), Nat.le_refl _, (Below.refl _ _).alloc (Nat.le_refl _) _⟩
  case round =>
    obtain ⟨m, g, cap, rfl, rfl, hm, hrow, hg, hbl0⟩ := hrel
    have hbox : wr.cell? ⟨w.heap.size, 8, none⟩ = some (.slice A8 vs.length c8) := (hbl0.cell (p := ⟨w.heap.size, 8, none⟩) (by have := HWS.out; simp; omega)).trans HBOX.out
    have hbl : Below w.heap.size w wr := HBW.out.trans (hbl0.mono (by have := HWS.out; omega))
    have HROW := Lib.hid hrow
    have HB0 := Lib.hid hbl0
    clear hrow hbl0
    by_cases hlt : m < vs.length
    · obtain ⟨o, off, rfl, ho, hcell⟩ := hr.2 (by omega)
      obtain ⟨hrl, hget⟩ := TmsAt.get vs hrows
      obtain ⟨q, hq, htr⟩ := hget m vs[m] (by simp [hlt])
      have hr11 : ∀ r ∈ rows, r.length = 11 := TmsAt.len vs hrows
      obtain ⟨n, hn⟩ : ∃ n, ns[m]? = some n := ⟨ns[m]'(by omega), by simp⟩
      have hent := entRows_get ns rows hr11 (by omega) m n q hn hq
      have hcells : wr.rangeAt o (off + m * 12 + 1) q := by
        intro j x hj
        have hj11 : j < 11 := by have := (List.getElem?_eq_some_iff.1 hj).1; rw [hr11 q (List.mem_of_getElem? hq)] at this; exact this
        rw [hbl.cell (p := ⟨o, off + m * 12 + 1 + j, none⟩) (show o < _ by omega)]
        have := hcell (m * 12 + (j + 1)) (by omega)
        rw [hent (j + 1) (by omega)] at this
        rw [show off + m * 12 + 1 + j = off + (m * 12 + (j + 1)) by omega, this]
        simpa using hj
      have hone := TmsAt.one vs hrows hq
      have hstep : (rows.take (m + 1)).flatten = (rows.take m).flatten ++ q := by
        rw [List.take_add_one, hq]; simp
      obtain ⟨r0, r1, r2, r3, r4, r5, r6, r7, r8, r9, r10, rfl⟩ := list11 (hr11 q (List.mem_of_getElem? hq))
      obtain ⟨hc0, hc1, hc2, hc3, hc4, hc5, hc6, hc7, hc8, hc9, hc10⟩ := range11 hcells
      have HSTEP := Lib.hid hstep
      have HONE := Lib.hid hone
      clear hr hcell hget hq hrows htr hr11 hcells hstep hone hent hn
      have hk0 : (0 : Int) ≤ (m : Int) := Int.natCast_nonneg _
      have hk1 : (m : Int) < (vs.length : Int) := by omega
      go_wp2_with (first | (at_builtin; refine wpList_push (by rfl) _ _ _ (by rfl) 31 _ 11 152 Try.underlying22 term_info rfl (by omega) g cap m _ (by rfl) (HROW.out.alloc _) wr.heap.size 1 1 #[r0, r1, r2, r3, r4, r5, r6, r7, r8, r9, r10] (by rfl) (by rfl) (Blk.new _ _ _) (by simpa using HONE.out) (by omega) (by unfold maxLen; omega) (by omega) ?_; intro g2 cap2 w2 hrow2 hf2 hg2))
      go_roundw
      case rel =>
        refine ⟨m + 1, g2, cap2, by go_num, rfl, by omega, by rw [HSTEP.out]; exact hrow2, ?_, HB0.out.trans (((Below.refl _ _).alloc (by have := HB0.out.size; omega) _).trans (hf2.below _ (by have := HB0.out.size; simp; omega) (by simp; omega)))⟩
        rcases hg2 with rfl | hg2
        · exact hg
        · have := HB0.out.size; simp at hg2; omega
      case measure => simp [intOf]; omega
    · obtain rfl : m = vs.length := by omega
      have hrl := (TmsAt.get vs hrows).1
      clear hr hrows
      go_wp2
      go_ret
      have h1 := HROW.out
      rw [List.take_of_length_le (by omega)] at h1
      exact ⟨⟨g, cap, rfl, h1, by have := HWS.out; omega⟩, hbl⟩

set_option maxRecDepth 100000 in
set_option maxHeartbeats 2000000 in
theorem rparts_10 (vs : List Tm) (ns : List ByteArray) (rows : List (List Value)) (B : Nat) (b : Bool) (i : Int) (f : Nat) (s : ByteArray) (A5 : Option Addr) (n5 c5 : Nat) (r : Int) (A7 : Option Addr) (n7 c7 : Nat) (A8 : Option Addr) (c8 : Nat) (c : ByteArray) (v : Int) (w : World) (hB : B ≤ w.heap.size)
    (hr : Rd w B 12 A8 vs.length (entRows ns rows)) (hrows : TmsAt w B vs rows) (hns : ns.length = vs.length) (hlen : vs.length ≤ 1048576) :
    Calls Try.prog 73 #[.agg #[.int .i64 10, .bool b, .int .i64 i, .float .f64 f, .string s, .slice A5 n5 c5, .int .u64 r, .slice A7 n7 c7, .slice A8 vs.length c8, .string c, .int .i64 v]] w (fun e w' => (∃ g cap, e = .returned (.slice (some ⟨g, 0, none⟩) vs.length cap) ∧ Row w' 31 11 g cap vs.length rows.flatten ∧ w.heap.size ≤ g) ∧ Below w.heap.size w w') := by
  go_enter Try.func73, Try.ntmps73
  go_wp2_with fail
  obtain ⟨wb, hwb⟩ : ∃ wb, wb = w.alloc (.cells #[.int .i64 10, .bool b, .int .i64 i, .float .f64 f, .string s, .slice A5 n5 c5, .int .u64 r, .slice A7 n7 c7, .slice A8 vs.length c8, .string c, .int .i64 v] 31) := ⟨_, rfl⟩
  have hbox : wb.cell? ⟨w.heap.size, 8, none⟩ = some (.slice A8 vs.length c8) := by rw [hwb, World.cell?_alloc_new]; rfl
  have hws : wb.heap.size = w.heap.size + 1 := by rw [hwb]; simp
  have hbw : Below w.heap.size w wb := by rw [hwb]; exact (Below.refl _ _).alloc (Nat.le_refl _) _
  rw [← hwb]
  have e1 : w.heap.size + 1 = wb.heap.size := hws.symm
  rw [e1]
  have HBOX := Lib.hid hbox
  have HWS := Lib.hid hws
  have HBW := Lib.hid hbw
  clear hwb hbox hws hbw e1
  go_loopw [3, 4] (fun v3 v4 wr => ∃ (m g cap : Nat), v4 = .int .i64 m ∧ v3 = .slice (some ⟨g, 0, none⟩) m cap ∧ m ≤ vs.length ∧ Row wr 31 11 g cap m (rows.take m).flatten ∧ wb.heap.size ≤ g ∧ Below wb.heap.size wb wr) (fun _ v4 _ => vs.length - (intOf v4).toNat)
  case atStart => exact ⟨0, wb.heap.size, 0, rfl, rfl, Nat.zero_le _, by simpa using Row.made wb 31 11 #[] 0 (by decide) (by simp), Nat.le_refl _, (Below.refl _ _).alloc (Nat.le_refl _) _⟩
  case round =>
    obtain ⟨m, g, cap, rfl, rfl, hm, hrow, hg, hbl0⟩ := hrel
    have hbox : wr.cell? ⟨w.heap.size, 8, none⟩ = some (.slice A8 vs.length c8) := (hbl0.cell (p := ⟨w.heap.size, 8, none⟩) (by have := HWS.out; simp; omega)).trans HBOX.out
    have hbl : Below w.heap.size w wr := HBW.out.trans (hbl0.mono (by have := HWS.out; omega))
    have HROW := Lib.hid hrow
    have HB0 := Lib.hid hbl0
    clear hrow hbl0
    by_cases hlt : m < vs.length
    · obtain ⟨o, off, rfl, ho, hcell⟩ := hr.2 (by omega)
      obtain ⟨hrl, hget⟩ := TmsAt.get vs hrows
      obtain ⟨q, hq, htr⟩ := hget m vs[m] (by simp [hlt])
      have hr11 : ∀ r ∈ rows, r.length = 11 := TmsAt.len vs hrows
      obtain ⟨n, hn⟩ : ∃ n, ns[m]? = some n := ⟨ns[m]'(by omega), by simp⟩
      have hent := entRows_get ns rows hr11 (by omega) m n q hn hq
      have hcells : wr.rangeAt o (off + m * 12 + 1) q := by
        intro j x hj
        have hj11 : j < 11 := by have := (List.getElem?_eq_some_iff.1 hj).1; rw [hr11 q (List.mem_of_getElem? hq)] at this; exact this
        rw [hbl.cell (p := ⟨o, off + m * 12 + 1 + j, none⟩) (show o < _ by omega)]
        have := hcell (m * 12 + (j + 1)) (by omega)
        rw [hent (j + 1) (by omega)] at this
        rw [show off + m * 12 + 1 + j = off + (m * 12 + (j + 1)) by omega, this]
        simpa using hj
      have hone := TmsAt.one vs hrows hq
      have hstep : (rows.take (m + 1)).flatten = (rows.take m).flatten ++ q := by
        rw [List.take_add_one, hq]; simp
      obtain ⟨r0, r1, r2, r3, r4, r5, r6, r7, r8, r9, r10, rfl⟩ := list11 (hr11 q (List.mem_of_getElem? hq))
      obtain ⟨hc0, hc1, hc2, hc3, hc4, hc5, hc6, hc7, hc8, hc9, hc10⟩ := range11 hcells
      have HSTEP := Lib.hid hstep
      have HONE := Lib.hid hone
      clear hr hcell hget hq hrows htr hr11 hcells hstep hone hent hn
      have hk0 : (0 : Int) ≤ (m : Int) := Int.natCast_nonneg _
      have hk1 : (m : Int) < (vs.length : Int) := by omega
      go_wp2_with (first | (at_builtin; refine wpList_push (by rfl) _ _ _ (by rfl) 31 _ 11 152 Try.underlying22 term_info rfl (by omega) g cap m _ (by rfl) (HROW.out.alloc _) wr.heap.size 1 1 #[r0, r1, r2, r3, r4, r5, r6, r7, r8, r9, r10] (by rfl) (by rfl) (Blk.new _ _ _) (by simpa using HONE.out) (by omega) (by unfold maxLen; omega) (by omega) ?_; intro g2 cap2 w2 hrow2 hf2 hg2))
      go_roundw
      case rel =>
        refine ⟨m + 1, g2, cap2, by go_num, rfl, by omega, by rw [HSTEP.out]; exact hrow2, ?_, HB0.out.trans (((Below.refl _ _).alloc (by have := HB0.out.size; omega) _).trans (hf2.below _ (by have := HB0.out.size; simp; omega) (by simp; omega)))⟩
        rcases hg2 with rfl | hg2
        · exact hg
        · have := HB0.out.size; simp at hg2; omega
      case measure => simp [intOf]; omega
    · obtain rfl : m = vs.length := by omega
      have hrl := (TmsAt.get vs hrows).1
      clear hr hrows
      go_wp2
      go_ret
      have h1 := HROW.out
      rw [List.take_of_length_le (by omega)] at h1
      exact ⟨⟨g, cap, rfl, h1, by have := HWS.out; omega⟩, hbl⟩

theorem rparts_any (t : Tm) (cs : List Value) (w : World) (B : Nat) (hB : B ≤ w.heap.size) (h : TmAt w B t cs) : Calls Try.prog 73 #[.agg cs.toArray] w (fun e w' => TmsGive B w.heap.size (kidsT t) e w' ∧ Below w.heap.size w w') := by
  obtain ⟨k, b, i, f, s, bs, r, l, ns, vs, c, v⟩ := t
  simp only [TmAt] at h
  obtain ⟨A5, c5, A7, c7, A8, c8, rfl, h5, ⟨rows7, h7, h7'⟩, hns, ⟨rows8, h8, h8'⟩, ⟨b1, b2, b3, b4, b5, b6⟩, w1, w2, w3, w4, w5⟩ := h
  by_cases k8 : k = 8
  · subst k8
    refine (rparts_list b i f s A5 _ c5 r A7 _ c7 A8 _ c8 c v w).mono ?_
    rintro e w' ⟨he, rfl⟩
    have hb := (Below.refl w.heap.size w).alloc (Nat.le_refl _) (.cells #[.int .i64 8, .bool b, .int .i64 i, .float .f64 f, .string s, .slice A5 bs.length c5, .int .u64 r, .slice A7 l.length c7, .slice A8 vs.length c8, .string c, .int .i64 v] 31)
    refine ⟨⟨A7, c7, rows7, by simpa [kidsT] using he, TmsAt.len l h7', by simpa [kidsT] using h7'.below hb hB, ?_⟩, hb⟩
    simp only [kidsT, if_true]
    intro hpos
    obtain ⟨q, off, rfl, hq, _⟩ := h7.2 hpos
    exact ⟨q, off, rfl, Or.inl hq, by simp; omega, fun j r hj => flat_range (h7.below hb hB) (TmsAt.len l h7') (TmsAt.get l h7').1 j r hj⟩
  by_cases k9 : k = 9
  · subst k9
    refine (rparts_9 vs ns rows8 B b i f s A5 _ c5 r A7 _ c7 A8 c8 c v w hB h8 h8' hns b4).mono ?_
    rintro e w' ⟨⟨g, cap, he, hrow, hg⟩, hb⟩
    refine ⟨⟨_, cap, rows8, by simpa [kidsT] using he, TmsAt.len vs h8', by simpa [kidsT] using h8'.below hb hB, ?_⟩, hb⟩
    simp only [kidsT]
    intro hpos
    exact ⟨g, 0, rfl, Or.inr hg, hrow.lt, fun j r hj => flat_range (hrow.rd _ hrow.lt) (TmsAt.len vs h8') (TmsAt.get vs h8').1 j r hj⟩
  by_cases k10 : k = 10
  · subst k10
    refine (rparts_10 vs ns rows8 B b i f s A5 _ c5 r A7 _ c7 A8 c8 c v w hB h8 h8' hns b4).mono ?_
    rintro e w' ⟨⟨g, cap, he, hrow, hg⟩, hb⟩
    refine ⟨⟨_, cap, rows8, by simpa [kidsT] using he, TmsAt.len vs h8', by simpa [kidsT] using h8'.below hb hB, ?_⟩, hb⟩
    simp only [kidsT]
    intro hpos
    exact ⟨g, 0, rfl, Or.inr hg, hrow.lt, fun j r hj => flat_range (hrow.rd _ hrow.lt) (TmsAt.len vs h8') (TmsAt.get vs h8').1 j r hj⟩
  · refine (rparts_none k b i f s A5 _ c5 r A7 _ c7 A8 _ c8 c v w (by simpa using k8) (by simpa using k9) (by simpa using k10)).mono ?_
    rintro e w' ⟨⟨g, he⟩, hb⟩
    have hk : kidsT (.mk k b i f s bs r l ns vs c v) = [] := by simp [kidsT, k8, k9, k10]
    rw [hk]
    exact ⟨⟨_, 0, [], by simpa using he, by simp, by simp [TmsAt], fun h => absurd h (by simp)⟩, hb⟩
end Go.Proofs.Ythanmakakcmkeaa
