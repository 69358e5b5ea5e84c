/- tenonmake.Built, Dict: the value of a term, in memory of its own. -/
import Derived.Test.YthanmakakcmkeaaAlien
import Derived.Deep.RegionHeld3
import Derived.Deep.DrawnRows
import Derived.Deep.MidRow
import Derived.Deep.LoopGhost
import Derived.Outline
namespace Go.Proofs.Ythanmakakcmkeaa
open Go.RowKit
attribute [local go_sem ↓] Go.wp_at_zero Go.wp_at_succ

mutual
def build : Tm → V
  | .mk k b i f s bs r l ns vs c v =>
    if k = 1 then .nil else if k = 2 then .bool b else if k = 3 then .int i else if k = 4 then .float f else if k = 5 then .text s else if k = 6 then .bytes bs else
    if k = 7 then .ref r else if k = 8 then .list (builds l) else if k = 9 then .dict ns (builds vs) else if k = 10 then .recd c v ns (builds vs) else if k = 11 then .nothing else .alien
def builds : List Tm → List V
  | [] => []
  | t :: ts => build t :: builds ts
end

theorem builds_append : ∀ ts ss : List Tm, builds (ts ++ ss) = builds ts ++ builds ss
  | [], ss => rfl
  | t :: ts, ss => by simp [builds, builds_append ts ss]
theorem builds_map : ∀ ts : List Tm, builds ts = ts.map build
  | [] => rfl
  | t :: ts => by simp [builds, builds_map ts]

/-- A value x in new memory. -/
def NewV (w : World) (x : V) (e : Ending) (w' : World) : Prop := ∃ v S, e = .returned v ∧ VAt w' x v S ∧ S.Nodup ∧ (∀ b ∈ S, w.heap.size ≤ b) ∧ Below w.heap.size w w'

def BuiltAt (t : Tm) : Prop := ∀ (cs : List Value) (w : World) (B : Nat), B ≤ w.heap.size → TmAt w B t cs → Calls Try.prog 7 #[.agg cs.toArray] w (NewV w (build t))

def NewI (w : World) (x : V) (e : Ending) (w' : World) : Prop := ∃ T u S, e = .returned (.iface T u) ∧ VAt w' x (.iface T u) S ∧ S.Nodup ∧ (∀ b ∈ S, w.heap.size ≤ b) ∧ Below w.heap.size w w'
def NewN (w : World) (e : Ending) (w' : World) : Prop := e = .returned .nilIface ∧ Below w.heap.size w w'

theorem NewV.iface {w w' : World} {x : V} {e : Ending} (hx : x ≠ .nil) (h : NewV w x e w') : NewI w x e w' := by
  obtain ⟨v, S, he, hv, h3⟩ := h
  rcases hv.form with rfl | ⟨T, u, rfl⟩
  · cases x <;> simp [VAt] at hv hx
  · exact ⟨T, u, S, he, hv, h3⟩
theorem NewV.none {w w' : World} {e : Ending} (h : NewV w .nil e w') : NewN w e w' := by
  obtain ⟨v, S, he, hv, _, _, hb⟩ := h
  obtain ⟨rfl, _⟩ := (by simpa only [VAt] using hv)
  exact ⟨he, hb⟩

theorem entRows_get (ns : List ByteArray) (rows : List (List Value)) (hr : ∀ r ∈ rows, r.length = 11) (hl : ns.length = rows.length) (i : Nat) (n : ByteArray) (r : List Value) (hn : ns[i]? = some n) (hi : rows[i]? = some r) (j : Nat) (hj : j < 12) :
    (entRows ns rows)[i * 12 + j]? = (Value.string n :: r)[j]? := by
  induction ns generalizing rows i with
  | nil => simp at hn
  | cons m ns ih =>
    cases rows with
    | nil => simp at hi
    | cons q rows =>
      have hq : q.length = 11 := hr q (by simp)
      cases i with
      | zero =>
        simp at hn hi
        subst hn hi
        simp only [entRows, List.zip_cons_cons, List.map_cons, List.flatten_cons, Nat.zero_mul, Nat.zero_add]
        rw [List.getElem?_append_left (by simp [hq]; omega)]
      | succ i =>
        have h := ih rows (fun r hr' => hr r (by simp [hr'])) (by simpa using hl) i (by simpa using hn) (by simpa using hi)
        simp only [entRows, List.zip_cons_cons, List.map_cons, List.flatten_cons]
        rw [List.getElem?_append_right (by simp [hq]; omega)]
        have e : (i + 1) * 12 + j - (Value.string m :: q).length = i * 12 + j := by simp [hq]; omega
        rw [e]
        exact h

theorem fld_info : (Try.prog.info? 112).map (fun i => (i.zero, i.size, i.bytes)) = some (some (.agg #[.string ByteArray.empty, .nilIface]), 2, 32) := by kernel_rfl

theorem term_size : (Try.prog.info? 31).map (·.size) = some 11 := by kernel_rfl

theorem TmsAt.len {w : World} {B : Nat} : ∀ (ts : List Tm) {rows : List (List Value)}, TmsAt w B ts rows → ∀ r ∈ rows, r.length = 11
  | [], rows, h => by
    obtain rfl : rows = [] := by simpa only [TmsAt] using h
    simp
  | y :: ts, rows, h => by
    obtain ⟨r, rs, rfl, h1, h2⟩ := (by simpa only [TmsAt] using h)
    intro q hq
    rcases List.mem_cons.1 hq with rfl | hq
    · exact TmAt.len y h1
    · exact TmsAt.len ts h2 q hq

theorem list11 {α : Type} {l : List α} (h : l.length = 11) : ∃ r0 r1 r2 r3 r4 r5 r6 r7 r8 r9 r10, l = [r0, r1, r2, r3, r4, r5, r6, r7, r8, r9, r10] := by
  match l, h with
  | [r0, r1, r2, r3, r4, r5, r6, r7, r8, r9, r10], _ => exact ⟨r0, r1, r2, r3, r4, r5, r6, r7, r8, r9, r10, rfl⟩

set_option maxRecDepth 100000 in
set_option maxHeartbeats 1000000 in
theorem dict_any (ns : List ByteArray) (vs : List Tm) (rows : List (List Value)) (A : Option Addr) (c : Nat) (w : World) (B : Nat) (hB : B ≤ w.heap.size)
    (hrd : Rd w B 12 A vs.length (entRows ns rows)) (hrows : TmsAt w B vs rows) (hns : ns.length = vs.length) (hlen : vs.length ≤ 1048576) (ih : ∀ t ∈ vs, BuiltAt t) :
    Calls Try.prog 28 #[.slice A vs.length c] w fun e w' => ∃ g cap us S, e = .returned (.slice (some ⟨g, 0, none⟩) vs.length cap) ∧ Row w' 112 2 g cap vs.length (fldCells ns us) ∧ VsAt w' (builds vs) us S ∧ (g :: S).Nodup ∧ (∀ b ∈ g :: S, w.heap.size ≤ b) ∧ Below w.heap.size w w' := by
  go_enter Try.func28, Try.ntmps28
  go_wp2_with fail
  go_loopw [3, 4] (fun v3 v4 wr => ∃ (k g cap : Nat) (us : List Value) (S : List Nat), v4 = .int .i64 k ∧ v3 = .slice (some ⟨g, 0, none⟩) k cap ∧ k ≤ vs.length ∧
      Acc w wr 112 2 g cap k (fldCells (ns.take k) us) (builds (vs.take k)) us S) (fun _ v4 _ => vs.length - (intOf v4).toNat)
  case atStart => exact ⟨0, w.heap.size, 0, [], [], rfl, rfl, Nat.zero_le _, by simpa [fldCells, builds] using Acc.start w 112 2⟩
  case round =>
    obtain ⟨k, g, cap, us, S, rfl, rfl, hk, hacc⟩ := hrel
    have hbl := hacc.below
    have hrow := hacc.row
    have HROW := Lib.hid hrow
    have HACC := Lib.hid hacc
    clear hrow hacc
    by_cases hlt : k < vs.length
    · obtain ⟨b, off, rfl, hb, hcell⟩ := hrd.2 (by omega)
      obtain ⟨hrl, hget⟩ := TmsAt.get vs hrows
      obtain ⟨r, hr, htr⟩ := hget k vs[k] (by simp [hlt])
      obtain ⟨n, hn⟩ : ∃ n, ns[k]? = some n := ⟨ns[k]'(by omega), by simp⟩
      have hr11 : ∀ r ∈ rows, r.length = 11 := TmsAt.len vs hrows
      have hent := entRows_get ns rows hr11 (by omega) k n r hn hr
      have hname : wr.cell? ⟨b, off + k * 12, none⟩ = some (.string n) := by
        rw [hbl.cell (p := ⟨b, off + k * 12, none⟩) (show b < _ by omega)]
        have := hcell (k * 12 + 0) (by omega)
        rw [hent 0 (by omega)] at this
        simpa using this
      have hcells : wr.rangeAt b (off + k * 12 + 1) r := by
        intro j v hj
        have hj11 : j < 11 := by have := (List.getElem?_eq_some_iff.1 hj).1; rw [hr11 r (List.mem_of_getElem? hr)] at this; exact this
        rw [hbl.cell (p := ⟨b, off + k * 12 + 1 + j, none⟩) (show b < _ by omega)]
        have := hcell (k * 12 + (j + 1)) (by omega)
        rw [hent (j + 1) (by omega)] at this
        rw [show off + k * 12 + 1 + j = off + (k * 12 + (j + 1)) by omega, this]
        simpa using hj
      have htw : TmAt wr B vs[k] r := htr.below hbl hB
      obtain ⟨r0, r1, r2, r3, r4, r5, r6, r7, r8, r9, r10, rfl⟩ := list11 (hr11 r (List.mem_of_getElem? hr))
      have hc0 : wr.cell? ⟨b, off + k * 12 + 1, none⟩ = some r0 := hcells 0 r0 rfl
      have hc1 : wr.cell? ⟨b, off + k * 12 + 1 + 1, none⟩ = some r1 := hcells 1 r1 rfl
      have hc2 : wr.cell? ⟨b, off + k * 12 + 1 + 2, none⟩ = some r2 := hcells 2 r2 rfl
      have hc3 : wr.cell? ⟨b, off + k * 12 + 1 + 3, none⟩ = some r3 := hcells 3 r3 rfl
      have hc4 : wr.cell? ⟨b, off + k * 12 + 1 + 4, none⟩ = some r4 := hcells 4 r4 rfl
      have hc5 : wr.cell? ⟨b, off + k * 12 + 1 + 5, none⟩ = some r5 := hcells 5 r5 rfl
      have hc6 : wr.cell? ⟨b, off + k * 12 + 1 + 6, none⟩ = some r6 := hcells 6 r6 rfl
      have hc7 : wr.cell? ⟨b, off + k * 12 + 1 + 7, none⟩ = some r7 := hcells 7 r7 rfl
      have hc8 : wr.cell? ⟨b, off + k * 12 + 1 + 8, none⟩ = some r8 := hcells 8 r8 rfl
      have hc9 : wr.cell? ⟨b, off + k * 12 + 1 + 9, none⟩ = some r9 := hcells 9 r9 rfl
      have hc10 : wr.cell? ⟨b, off + k * 12 + 1 + 10, none⟩ = some r10 := hcells 10 r10 rfl
      have hk0 : (0 : Int) ≤ (k : Int) := Int.natCast_nonneg _
      have hk1 : (k : Int) < (vs.length : Int) := by omega
      have hbw : b < wr.heap.size := by have := hbl.size; omega
      have hgb : b ≠ g := by have := HACC.out.new g (by simp); omega
      have hih := ih vs[k] (List.getElem_mem _)
      by_cases hnil : build vs[k] = .nil
      · have HIH := Lib.hid (fun cs w B hB h => (hih cs w B hB h).mono fun e w' h => NewV.none (hnil ▸ h))
        have HTW := Lib.hid htw
        have HENT := Lib.hid hent
        have HN := Lib.hid hn
        have HROWS := Lib.hid hrows
        clear hrd hcell hget htw hent hn hr hrows htr hr11 hcells hih ih
        go_wp2_with fail
        go_region_held3 (fun w' => w'.cell? ⟨b, off + k * 12, none⟩ = some (.string n) ∧ w'.cell? ⟨b, off + k * 12 + 1, none⟩ = some r0 ∧ w'.cell? ⟨b, off + k * 12 + 1 + 1, none⟩ = some r1 ∧ w'.cell? ⟨b, off + k * 12 + 1 + 2, none⟩ = some r2 ∧ w'.cell? ⟨b, off + k * 12 + 1 + 3, none⟩ = some r3 ∧ w'.cell? ⟨b, off + k * 12 + 1 + 4, none⟩ = some r4 ∧ w'.cell? ⟨b, off + k * 12 + 1 + 5, none⟩ = some r5 ∧ w'.cell? ⟨b, off + k * 12 + 1 + 6, none⟩ = some r6 ∧ w'.cell? ⟨b, off + k * 12 + 1 + 7, none⟩ = some r7 ∧ w'.cell? ⟨b, off + k * 12 + 1 + 8, none⟩ = some r8 ∧ w'.cell? ⟨b, off + k * 12 + 1 + 9, none⟩ = some r9 ∧ w'.cell? ⟨b, off + k * 12 + 1 + 10, none⟩ = some r10)
          (first | go_keep | (go_split_ands; refine ⟨?_, ?_, ?_, ?_, ?_, ?_, ?_, ?_, ?_, ?_, ?_, ?_⟩ <;> (refine cell_below hb1 ?_; assumption)) | (go_split_ands; refine ⟨?_, ?_, ?_, ?_, ?_, ?_, ?_, ?_, ?_, ?_, ?_, ?_⟩ <;> (exact hf2.cell ‹_› (by simpa using hgb))))
          (first | (go_at_call 7; refine ((HIH.out) _ _ B (by have := hbl.size; simp; omega) HTW.out.drew).mono ?_; rintro e w1 ⟨rfl, hb1⟩)
                 | (refine step_push (by rfl) _ _ _ (by rfl) 112 _ 2 32 Try.underlying77 fld_info rfl (by omega) g cap k _ (by rfl) ((HROW.out.drew.below hb1).alloc _) w1.heap.size 1 1 #[.string n, .nilIface] (by rfl) (by rfl) (Blk.new _ _ _) (by simp [Value.oneCell']) (by omega) (by unfold maxLen; omega) (by omega) ?_; intro g2 cap2 w2 hrow2 hf2 hg2))
        all_goals go_wp2
        go_roundw
        case rel => exact ⟨k + 1, g2, cap2, us ++ [.nilIface], S ++ [], by go_num, rfl, by omega, by
            rw [fldCells_snoc HN.out (by rw [VsAt.length _ HACC.out.vals]; simp [builds_map]; omega) _, List.take_succ_eq_append_getElem hlt, builds_append]
            simp only [builds, hnil]
            exact HACC.out.step (wr := wr) (w1 := w1) (below_undrew hb1) (v := .nilIface) (S1 := []) (by simp [VAt]) (by simp) (by simp) hrow2 hf2 hg2⟩
        case measure => simp [intOf]; omega
      · have HIH := Lib.hid (fun cs w B hB h => (hih cs w B hB h).mono fun e w' h => NewV.iface hnil h)
        have HTW := Lib.hid htw
        have HENT := Lib.hid hent
        have HN := Lib.hid hn
        have HROWS := Lib.hid hrows
        clear hrd hcell hget htw hent hn hr hrows htr hr11 hcells hih ih
        go_wp2_with fail
        go_region_held3 (fun w' => w'.cell? ⟨b, off + k * 12, none⟩ = some (.string n) ∧ w'.cell? ⟨b, off + k * 12 + 1, none⟩ = some r0 ∧ w'.cell? ⟨b, off + k * 12 + 1 + 1, none⟩ = some r1 ∧ w'.cell? ⟨b, off + k * 12 + 1 + 2, none⟩ = some r2 ∧ w'.cell? ⟨b, off + k * 12 + 1 + 3, none⟩ = some r3 ∧ w'.cell? ⟨b, off + k * 12 + 1 + 4, none⟩ = some r4 ∧ w'.cell? ⟨b, off + k * 12 + 1 + 5, none⟩ = some r5 ∧ w'.cell? ⟨b, off + k * 12 + 1 + 6, none⟩ = some r6 ∧ w'.cell? ⟨b, off + k * 12 + 1 + 7, none⟩ = some r7 ∧ w'.cell? ⟨b, off + k * 12 + 1 + 8, none⟩ = some r8 ∧ w'.cell? ⟨b, off + k * 12 + 1 + 9, none⟩ = some r9 ∧ w'.cell? ⟨b, off + k * 12 + 1 + 10, none⟩ = some r10)
          (first | go_keep | (go_split_ands; refine ⟨?_, ?_, ?_, ?_, ?_, ?_, ?_, ?_, ?_, ?_, ?_, ?_⟩ <;> (refine cell_below hb1 ?_; assumption)) | (go_split_ands; refine ⟨?_, ?_, ?_, ?_, ?_, ?_, ?_, ?_, ?_, ?_, ?_, ?_⟩ <;> (exact hf2.cell ‹_› (by simpa using hgb))))
          (first | (go_at_call 7; refine ((HIH.out) _ _ B (by have := hbl.size; simp; omega) HTW.out.drew).mono ?_; rintro e w1 ⟨T, u, S1, rfl, hv, hnd1, hge1, hb1⟩)
                 | (refine step_push (by rfl) _ _ _ (by rfl) 112 _ 2 32 Try.underlying77 fld_info rfl (by omega) g cap k _ (by rfl) ((HROW.out.drew.below hb1).alloc _) w1.heap.size 1 1 #[.string n, .iface T u] (by rfl) (by rfl) (Blk.new _ _ _) (by simp [Value.oneCell']) (by omega) (by unfold maxLen; omega) (by omega) ?_; intro g2 cap2 w2 hrow2 hf2 hg2))
        all_goals go_wp2
        go_roundw
        case rel => exact ⟨k + 1, g2, cap2, us ++ [.iface T u], S ++ S1, by go_num, rfl, by omega, by
            rw [fldCells_snoc HN.out (by rw [VsAt.length _ HACC.out.vals]; simp [builds_map]; omega) _, List.take_succ_eq_append_getElem hlt, builds_append]
            simp only [builds]
            exact HACC.out.step (wr := wr) (w1 := w1) (below_undrew hb1) hv hnd1 hge1 hrow2 hf2 hg2⟩
        case measure => simp [intOf]; omega
    · obtain rfl : k = vs.length := by omega
      go_wp2
      go_ret
      have hacc := HACC.out
      rw [List.take_of_length_le (by omega), List.take_of_length_le (by omega)] at hacc
      exact ⟨g, cap, us, S, rfl, hacc.row, hacc.vals, hacc.nodup, hacc.new, hacc.below⟩
end Go.Proofs.Ythanmakakcmkeaa
