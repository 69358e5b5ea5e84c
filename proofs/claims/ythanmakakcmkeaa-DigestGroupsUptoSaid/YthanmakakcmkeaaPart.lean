/- value.count.part, value.count.all: a value's parts, looked through. -/
import Derived.Test.YthanmakakcmkeaaOwn2
namespace Go.Proofs.Ythanmakakcmkeaa
open Go.RowKit

mutual
/-- what 'part' makes of how many, how deep: the same anew, and what is wrong -/
def partV : V → Int → Int → Int → Int × Int × Int
  | .list l, deep, n, d => if ownE (.list l) n deep = 0 then partsV l (deep + 1) (n + 1) (if d < deep then deep else d) else (n, d, ownE (.list l) n deep)
  | .dict ns l, deep, n, d => if ownE (.dict ns l) n deep = 0 then partsV l (deep + 1) (n + 1) (if d < deep then deep else d) else (n, d, ownE (.dict ns l) n deep)
  | .recd c r ns l, deep, n, d => if ownE (.recd c r ns l) n deep = 0 then partsV l (deep + 1) (n + 1) (if d < deep then deep else d) else (n, d, ownE (.recd c r ns l) n deep)
  | x, deep, n, d => if ownE x n deep = 0 then (n + 1, (if d < deep then deep else d), 0) else (n, d, ownE x n deep)
def partsV : List V → Int → Int → Int → Int × Int × Int
  | [], _, n, d => (n, d, 0)
  | x :: xs, deep, n, d => if (partV x deep n d).2.2 = 0 then partsV xs deep (partV x deep n d).1 (partV x deep n d).2.1 else partV x deep n d
end

theorem ownE_lt {x : V} {n deep : Int} (h : ownE x n deep = 0) : n < 16384 ∧ deep ≤ 64 := by
  unfold ownE at h
  split at h
  · cases x <;> simp [ownX] at h
  · omega

theorem leaf_bound {n d z e : Int} (h0 : 0 ≤ n) (h1 : n ≤ 16384) (h : e = 0 → n < 16384) : 0 ≤ (if e = 0 then (n + 1, z, (0 : Int)) else (n, d, e)).1 ∧ (if e = 0 then (n + 1, z, (0 : Int)) else (n, d, e)).1 ≤ 16384 := by
  split
  · rename_i he; have := h he; exact ⟨by show 0 ≤ n + 1; omega, by show n + 1 ≤ 16384; omega⟩
  · exact ⟨h0, h1⟩

mutual
theorem partV_bound : ∀ (x : V) (deep n d : Int), 0 ≤ n → n ≤ 16384 → 0 ≤ (partV x deep n d).1 ∧ (partV x deep n d).1 ≤ 16384 := by
  intro x deep n d h0 h1
  cases x with
  | list l =>
    simp only [partV]
    split
    · rename_i h; have := (ownE_lt h).1; exact partsV_bound l _ _ _ (by omega) (by omega)
    · exact ⟨h0, h1⟩
  | dict ns l =>
    simp only [partV]
    split
    · rename_i h; have := (ownE_lt h).1; exact partsV_bound l _ _ _ (by omega) (by omega)
    · exact ⟨h0, h1⟩
  | recd c r ns l =>
    simp only [partV]
    split
    · rename_i h; have := (ownE_lt h).1; exact partsV_bound l _ _ _ (by omega) (by omega)
    · exact ⟨h0, h1⟩
  | nil => simp only [partV]; exact leaf_bound h0 h1 fun h => (ownE_lt h).1
  | bool b => simp only [partV]; exact leaf_bound h0 h1 fun h => (ownE_lt h).1
  | int b => simp only [partV]; exact leaf_bound h0 h1 fun h => (ownE_lt h).1
  | float b => simp only [partV]; exact leaf_bound h0 h1 fun h => (ownE_lt h).1
  | text b => simp only [partV]; exact leaf_bound h0 h1 fun h => (ownE_lt h).1
  | bytes b => simp only [partV]; exact leaf_bound h0 h1 fun h => (ownE_lt h).1
  | ref b => simp only [partV]; exact leaf_bound h0 h1 fun h => (ownE_lt h).1
  | nothing => simp only [partV]; exact leaf_bound h0 h1 fun h => (ownE_lt h).1
  | alien => simp only [partV]; exact leaf_bound h0 h1 fun h => (ownE_lt h).1
theorem partsV_bound : ∀ (xs : List V) (deep n d : Int), 0 ≤ n → n ≤ 16384 → 0 ≤ (partsV xs deep n d).1 ∧ (partsV xs deep n d).1 ≤ 16384 := by
  intro xs deep n d h0 h1
  cases xs with
  | nil => simp only [partsV]; exact ⟨h0, h1⟩
  | cons x xs =>
    have := partV_bound x deep n d h0 h1
    simp only [partsV]
    split
    · exact partsV_bound xs _ _ _ this.1 this.2
    · exact this
end

def cnt (r : Int × Int × Int) : Array Value := #[.int .i64 r.1, .int .i64 r.2.1, .int .i64 r.2.2]
/-- what 'part', 'all' do to the count at p -/
def Parted (p : Nat) (w : World) (r : Int × Int × Int) (b : Bool) (e : Ending) (w' : World) : Prop := e = .returned (.bool b) ∧ Blk w' p 143 (cnt r) ∧ Fr [p] w w'

def PartAt (x : V) : Prop := ∀ (v : Value) (S : List Nat) (w : World) (p : Nat) (n d y deep : Int), VAt w x v S → p ∉ S → Blk w p 143 (cnt (n, d, y)) → 0 ≤ n → n ≤ 16384 → 0 ≤ deep →
  Calls Try.prog 68 #[.pointer (some ⟨p, 0, none⟩), v, .int .i64 deep] w (Parted p w (partV x deep n d) (decide ((partV x deep n d).2.2 = 0)))

theorem cnt_cells {w : World} {p : Nat} {r : Int × Int × Int} (h : Blk w p 143 (cnt r)) : w.cell? ⟨p, 0, none⟩ = some (.int .i64 r.1) ∧ w.cell? ⟨p, 1, none⟩ = some (.int .i64 r.2.1) ∧ w.cell? ⟨p, 2, none⟩ = some (.int .i64 r.2.2) :=
  ⟨h.cell 0, h.cell 1, h.cell 2⟩

/-- it is wrong itself -/
theorem part_bad (x : V) (v : Value) (S : List Nat) (w : World) (p : Nat) (n d y0 deep y : Int) (h : VAt w x v S) (hp : Blk w p 143 (cnt (n, d, y0))) (hy : ownE x n deep = y) (hy0 : y ≠ 0) :
    Calls Try.prog 68 #[.pointer (some ⟨p, 0, none⟩), v, .int .i64 deep] w (Parted p w (n, d, y) false) := by
  have HO := Lib.hid (own_any x v S n deep w h)
  rw [hy] at HO
  have hb0 : (y != 0) = true := by simpa using hy0
  have HP := Lib.hid hp
  obtain ⟨c0, c1, c2⟩ := cnt_cells hp
  dsimp only at c0 c1 c2
  clear h hp hy
  go_enter Try.func68, Try.ntmps68
  go_wp2_with (first | (go_at_call 90; refine HO.out.mono ?_; rintro e w1 ⟨rfl, hb⟩; have p1 := HP.out.below hb; have q0 := p1.cell 0; have q1 := p1.cell 1; have q2 := p1.cell 2; have f2 := p1.free 2; dsimp only [cnt] at q0 q1 q2))
  go_ret
  exact ⟨rfl, by simpa [cnt] using p1.set 2 (.int .i64 y), (Fr.of_below hb _).set (.inl (by simp)) _⟩

/-- it is right itself, and there are no parts in it -/
theorem part_leaf (x : V) (v : Value) (S : List Nat) (w : World) (p : Nat) (n d y0 deep : Int) (h : VAt w x v S) (hp : Blk w p 143 (cnt (n, d, y0))) (hy : ownE x n deep = 0) (h0 : 0 ≤ n) (hd : 0 ≤ deep) (m : Int) (hm : (d < deep ∧ m = deep) ∨ (deep ≤ d ∧ m = d))
    (t1 : ∃ z, ∀ w, (Instr.typeAssert v 20 75 true).run Try.prog w = .ok (.tuple #[z, .bool false]) w) (t2 : ∃ z, ∀ w, (Instr.typeAssert v 20 77 true).run Try.prog w = .ok (.tuple #[z, .bool false]) w)
    (t3 : ∃ z, ∀ w, (Instr.typeAssert v 20 79 true).run Try.prog w = .ok (.tuple #[z, .bool false]) w) :
    Calls Try.prog 68 #[.pointer (some ⟨p, 0, none⟩), v, .int .i64 deep] w (Parted p w (n + 1, m, 0) true) := by
  have HO := Lib.hid (own_any x v S n deep w h)
  rw [hy] at HO
  have hlt := ownE_lt hy
  have hwn : IntKind.i64.wrap (n + 1) = n + 1 := IntWalk.i64_in _ ⟨by omega, by omega⟩
  have hwd : IntKind.i64.wrap (deep + 1) = deep + 1 := IntWalk.i64_in _ ⟨by omega, by omega⟩
  have HP := Lib.hid hp
  obtain ⟨c0, c1, c2⟩ := cnt_cells hp
  dsimp only at c0 c1 c2
  obtain ⟨z1, t1⟩ := t1
  obtain ⟨z2, t2⟩ := t2
  obtain ⟨z3, t3⟩ := t3
  have hform := h.form
  clear h hp hy
  rcases hform with rfl | ⟨T, u, rfl⟩ <;> rcases hm with ⟨hm, rfl⟩ | ⟨hm, rfl⟩
  all_goals
    go_enter Try.func68, Try.ntmps68
    go_wp2_with (first | (go_at_call 90; refine HO.out.mono ?_; rintro e w1 ⟨rfl, hb⟩; have p1 := HP.out.below hb; have q0 := p1.cell 0; have q1 := p1.cell 1; have q2 := p1.cell 2; have f0 := p1.free 0; have f1 := p1.free 1; have f2 := p1.free 2; dsimp only [cnt] at q0 q1 q2))
    go_ret
    refine ⟨rfl, ?_, ?_⟩
    · simpa [cnt] using ((p1.set 2 (.int .i64 0)).set 0 (.int .i64 (n + 1))).set 1 (.int .i64 _)
    · exact (((Fr.of_below hb _).set (.inl (by simp)) _).set (.inl (by simp)) _).set (.inl (by simp)) _

theorem partsV_drop {xs : List V} {k : Nat} (hk : k < xs.length) (deep n d : Int) : partsV (xs.drop k) deep n d =
    if (partV xs[k] deep n d).2.2 = 0 then partsV (xs.drop (k + 1)) deep (partV xs[k] deep n d).1 (partV xs[k] deep n d).2.1 else partV xs[k] deep n d := by
  rw [List.drop_eq_getElem_cons hk, partsV]
theorem VsAt.getk {w : World} {xs : List V} {vs : List Value} {S : List Nat} (h : VsAt w xs vs S) {k : Nat} (hk : k < xs.length) : ∃ v S1, vs[k]? = some v ∧ VAt w xs[k] v S1 ∧ ∀ b ∈ S1, b ∈ S :=
  VsAt.get xs h k _ (List.getElem?_eq_getElem hk)

set_option maxRecDepth 20000 in
set_option maxHeartbeats 2000000 in
theorem part_list (xs : List V) (g cap : Nat) (vs : List Value) (Ss : List Nat) (w : World) (p : Nat) (n d y0 deep : Int) (h : VAt w (.list xs) (.iface 75 (.slice (some ⟨g, 0, none⟩) xs.length cap)) (g :: Ss))
    (hr : Row w 20 1 g cap xs.length vs) (hv : VsAt w xs vs Ss) (hpS : p ∉ g :: Ss) (hp : Blk w p 143 (cnt (n, d, y0))) (hy : ownE (.list xs) n deep = 0) (h0 : 0 ≤ n) (hd : 0 ≤ deep)
    (ih : ∀ x ∈ xs, PartAt x) (m : Int) (hm : (d < deep ∧ m = deep) ∨ (deep ≤ d ∧ m = d)) (r0 : Int × Int × Int) (hr0 : partsV xs (deep + 1) (n + 1) m = r0) (b0 : Bool) (hb0 : decide (r0.2.2 = 0) = b0) (hlen : xs.length ≤ 1048576) :
    Calls Try.prog 68 #[.pointer (some ⟨p, 0, none⟩), .iface 75 (.slice (some ⟨g, 0, none⟩) xs.length cap), .int .i64 deep] w (Parted p w r0 b0) := by
  have HO := Lib.hid (own_any (.list xs) _ _ n deep w h)
  rw [hy] at HO
  have hlt := ownE_lt hy
  have hwn : IntKind.i64.wrap (n + 1) = n + 1 := IntWalk.i64_in _ ⟨by omega, by omega⟩
  have hwd : IntKind.i64.wrap (deep + 1) = deep + 1 := IntWalk.i64_in _ ⟨by omega, by omega⟩
  have HP := Lib.hid hp
  obtain ⟨c0, c1, c2⟩ := cnt_cells hp
  dsimp only at c0 c1 c2
  obtain ⟨a1, a2, a3, a4, a5, a6, a7, a8, a9⟩ := tas_list
  have HR := Lib.hid hr
  have HV := Lib.hid hv
  have hpg : p ≠ g := fun e => hpS (by simp [e])
  have hpSs : p ∉ Ss := fun e => hpS (by simp [e])
  have HP0 := Lib.hid hr0
  have HB0 := Lib.hid hb0
  have HIH := Lib.hid ih
  clear h hp hy hr hv hpS hr0 hb0 ih
  rcases hm with ⟨hm, hme⟩ | ⟨hm, hme⟩ <;> subst m
  all_goals
    go_enter Try.func68, Try.ntmps68
    go_wp2_with (first | (go_at_call 90; refine HO.out.mono ?_; rintro e w1 ⟨rfl, hb⟩; have p1 := HP.out.below hb; have q0 := p1.cell 0; have q1 := p1.cell 1; have q2 := p1.cell 2; have f0 := p1.free 0; have f1 := p1.free 1; have f2 := p1.free 2; dsimp only [cnt] at q0 q1 q2))
    clear hm c0 c1 c2 q0 q1 q2 f0 f1 f2
    go_loopw [9, 49] (fun _ v wr => ∃ (k : Nat) (n1 d1 : Int), k ≤ xs.length ∧ v = .int .i64 k ∧ Blk wr p 143 (cnt (n1, d1, 0)) ∧ Fr [p] w wr ∧ partsV (xs.drop k) (deep + 1) n1 d1 = r0 ∧ 0 ≤ n1 ∧ n1 ≤ 16384) (fun _ v _ => xs.length - (intOf v).toNat)
    case atStart =>
      refine ⟨0, _, _, by omega, rfl, by simpa [cnt] using ((p1.set 2 (.int .i64 0)).set 0 (.int .i64 (n + 1))).set 1 (.int .i64 _), (((Fr.of_below hb _).set (.inl (by simp)) _).set (.inl (by simp)) _).set (.inl (by simp)) _, by simpa using HP0.out, by omega, by omega⟩
    case round =>
      obtain ⟨k, n1, d1, hk, rfl, hblk, hfr, heq, hn0, hn1⟩ := hrel
      have HBK := Lib.hid hblk
      have HFR := Lib.hid hfr
      have HEQ := Lib.hid heq
      clear hblk hfr heq
      by_cases hlt : k < xs.length
      · obtain ⟨x, S1, hx, hvx, hS1⟩ := VsAt.getk (HV.out.fr HFR.out (fun b hb => by simp; rintro rfl; exact hpSs hb)) hlt
        have hc0 : wr.cell? ⟨g, k, none⟩ = some x := by
          rw [(HR.out.fr HFR.out (by simpa using Ne.symm hpg)).cell k (by omega), hx]
        have hk0 : (0 : Int) ≤ (k : Int) := Int.natCast_nonneg _
        have hk1 : (k : Int) < (xs.length : Int) := by omega
        have hcall := HIH.out _ (List.getElem_mem hlt) x S1 wr p n1 d1 0 (deep + 1) hvx (fun e => hpSs (hS1 _ e)) HBK.out hn0 hn1 (by omega)
        have hstep := HEQ.out
        rw [partsV_drop hlt] at hstep
        have hbd := partV_bound xs[k] (deep + 1) n1 d1 hn0 hn1
        have hform := hvx.form
        generalize partV xs[k] (deep + 1) n1 d1 = r at hcall hstep hbd
        have HCALL := Lib.hid hcall
        have HSTEP := Lib.hid hstep
        have HBD := Lib.hid hbd
        clear hcall hstep hvx hx hbd
        obtain ⟨rn, rd, ry⟩ := r
        by_cases hq : ry = 0
        · subst hq
          rcases hform with rfl | ⟨T, u, rfl⟩
          all_goals
            go_wp2_with (first | (go_at_call 68; refine HCALL.out.mono ?_; rintro e w2 ⟨rfl, hblk2, hfr2⟩))
            go_roundw
            case rel => exact ⟨k + 1, rn, rd, by omega, by go_num, hblk2, HFR.out.trans hfr2, by have := HSTEP.out; simpa using this, HBD.out.1, HBD.out.2⟩
            case measure => simp [intOf]; omega
        · have hqb : decide (ry = 0) = false := by simpa using hq
          rcases hform with rfl | ⟨T, u, rfl⟩
          all_goals
            go_wp2_with (first | (go_at_call 68; refine HCALL.out.mono ?_; rintro e w2 ⟨rfl, hblk2, hfr2⟩))
            go_ret
            have h1 := HSTEP.out
            rw [if_neg (by simpa using hq)] at h1
            have h2 := HB0.out
            rw [← h1] at h2 ⊢
            exact ⟨by rw [← h2]; simp [hq], hblk2, HFR.out.trans hfr2⟩
      · obtain rfl : k = xs.length := by omega
        go_wp2
        go_ret
        have h1 := HEQ.out
        rw [List.drop_length, partsV] at h1
        have h2 := HB0.out
        rw [← h1] at h2 ⊢
        exact ⟨by rw [← h2]; simp, HBK.out, HFR.out⟩

set_option maxRecDepth 20000 in
set_option maxHeartbeats 2000000 in
theorem all_any (ns : List ByteArray) (xs : List V) (g cap : Nat) (vs : List Value) (Ss : List Nat) (w : World) (p : Nat) (n d deep : Int)
    (hr : Row w 112 2 g cap xs.length (fldCells ns vs)) (hv : VsAt w xs vs Ss) (hns : ns.length = xs.length) (hpS : p ∉ g :: Ss) (hp : Blk w p 143 (cnt (n, d, 0))) (h0 : 0 ≤ n) (h1 : n ≤ 16384) (hd : 0 ≤ deep) (hd2 : deep ≤ 64)
    (ih : ∀ x ∈ xs, PartAt x) (r0 : Int × Int × Int) (hr0 : partsV xs (deep + 1) n d = r0) (b0 : Bool) (hb0 : decide (r0.2.2 = 0) = b0) (hlen : xs.length ≤ 1048576) :
    Calls Try.prog 91 #[.pointer (some ⟨p, 0, none⟩), .slice (some ⟨g, 0, none⟩) xs.length cap, .int .i64 deep] w (Parted p w r0 b0) := by
  have hwd : IntKind.i64.wrap (deep + 1) = deep + 1 := IntWalk.i64_in _ ⟨by omega, by omega⟩
  have HR := Lib.hid hr
  have HV := Lib.hid hv
  have HP := Lib.hid hp
  have hpg : p ≠ g := fun e => hpS (by simp [e])
  have hpSs : p ∉ Ss := fun e => hpS (by simp [e])
  have HP0 := Lib.hid hr0
  have HB0 := Lib.hid hb0
  have HIH := Lib.hid ih
  have hvl : vs.length = xs.length := VsAt.length xs hv
  clear hp hr hv hpS hr0 hb0 ih
  go_enter Try.func91, Try.ntmps91
  go_wp2_with fail
  go_loopw [8, 11] (fun _ v wr => ∃ (k : Nat) (n1 d1 : Int), k ≤ xs.length ∧ v = .int .i64 k ∧ Blk wr p 143 (cnt (n1, d1, 0)) ∧ Fr [p] w wr ∧ partsV (xs.drop k) (deep + 1) n1 d1 = r0 ∧ 0 ≤ n1 ∧ n1 ≤ 16384) (fun _ v _ => xs.length - (intOf v).toNat)
  case atStart =>
    exact ⟨0, _, _, by omega, rfl, HP.out, Fr.refl _ _, by simpa using HP0.out, h0, h1⟩
  case round =>
    obtain ⟨k, n1, d1, hk, rfl, hblk, hfr, heq, hn0, hn1⟩ := hrel
    have HBK := Lib.hid hblk
    have HFR := Lib.hid hfr
    have HEQ := Lib.hid heq
    clear hblk hfr heq
    by_cases hlt : k < xs.length
    · obtain ⟨x, S1, hx, hvx, hS1⟩ := VsAt.getk (HV.out.fr HFR.out (fun b hb => by simp; rintro rfl; exact hpSs hb)) hlt
      have hrow := HR.out.fr HFR.out (by simpa using Ne.symm hpg)
      have hc0 : wr.cell? ⟨g, k * 2, none⟩ = some (.string (ns.getD k ByteArray.empty)) := by
        rw [hrow.cell _ (by omega), (fldCells_name ns vs (by omega) k (by omega)).1]
      have hc1 : wr.cell? ⟨g, k * 2 + 1, none⟩ = some x := by
        rw [hrow.cell _ (by omega), (fldCells_name ns vs (by omega) k (by omega)).2, hx]
      clear hrow
      have hk0 : (0 : Int) ≤ (k : Int) := Int.natCast_nonneg _
      have hk1 : (k : Int) < (xs.length : Int) := by omega
      generalize ns.getD k ByteArray.empty = nm at hc0
      have hform := hvx.form
      have hstep := HEQ.out
      rw [partsV_drop hlt] at hstep
      have hbd := partV_bound xs[k] (deep + 1) n1 d1 hn0 hn1
      have hpA : PartAt xs[k] := HIH.out _ (List.getElem_mem hlt)
      have HAL := Lib.hid ((Below.refl wr.heap.size wr).alloc (Nat.le_refl _) (.cells #[.string nm, x] 112))
      have hcall := hpA x S1 _ p n1 d1 0 (deep + 1) (hvx.below HAL.out) (fun e => hpSs (hS1 _ e)) (HBK.out.below HAL.out) hn0 hn1 (by omega)
      generalize partV xs[k] (deep + 1) n1 d1 = r at hcall hstep hbd
      have HCALL := Lib.hid hcall
      have HSTEP := Lib.hid hstep
      have HBD := Lib.hid hbd
      clear hcall hstep hvx hx hbd hpA
      obtain ⟨rn, rd, ry⟩ := r
      by_cases hq : ry = 0
      · subst hq
        rcases hform with rfl | ⟨T, u, rfl⟩
        all_goals
          go_wp2_with (first | (go_at_call 68; refine HCALL.out.mono ?_; rintro e w2 ⟨rfl, hblk2, hfr2⟩))
          go_roundw
          case rel => exact ⟨k + 1, rn, rd, by omega, by go_num, hblk2, HFR.out.trans ((Fr.of_below HAL.out _).trans hfr2), by have := HSTEP.out; simpa using this, HBD.out.1, HBD.out.2⟩
          case measure => simp [intOf]; omega
      · have hqb : decide (ry = 0) = false := by simpa using hq
        rcases hform with rfl | ⟨T, u, rfl⟩
        all_goals
          go_wp2_with (first | (go_at_call 68; refine HCALL.out.mono ?_; rintro e w2 ⟨rfl, hblk2, hfr2⟩))
          go_ret
          have h1 := HSTEP.out
          rw [if_neg (by simpa using hq)] at h1
          have h2 := HB0.out
          rw [← h1] at h2 ⊢
          exact ⟨by rw [← h2]; simp [hq], hblk2, HFR.out.trans ((Fr.of_below HAL.out _).trans hfr2)⟩
    · obtain rfl : k = xs.length := by omega
      go_wp2
      go_ret
      have h1 := HEQ.out
      rw [List.drop_length, partsV] at h1
      have h2 := HB0.out
      rw [← h1] at h2 ⊢
      exact ⟨by rw [← h2]; simp, HBK.out, HFR.out⟩

set_option maxRecDepth 20000 in
set_option maxHeartbeats 2000000 in
theorem part_dict (ns : List ByteArray) (xs : List V) (g cap : Nat) (vs : List Value) (Ss : List Nat) (w : World) (p : Nat) (n d y0 deep : Int) (h : VAt w (.dict ns xs) (.iface 77 (.slice (some ⟨g, 0, none⟩) xs.length cap)) (g :: Ss))
    (hr : Row w 112 2 g cap xs.length (fldCells ns vs)) (hv : VsAt w xs vs Ss) (hns : ns.length = xs.length) (hpS : p ∉ g :: Ss) (hp : Blk w p 143 (cnt (n, d, y0))) (hy : ownE (.dict ns xs) n deep = 0) (h0 : 0 ≤ n) (hd : 0 ≤ deep)
    (ih : ∀ x ∈ xs, PartAt x) (m : Int) (hm : (d < deep ∧ m = deep) ∨ (deep ≤ d ∧ m = d)) (r0 : Int × Int × Int) (hr0 : partsV xs (deep + 1) (n + 1) m = r0) (b0 : Bool) (hb0 : decide (r0.2.2 = 0) = b0) (hlen : xs.length ≤ 1048576) :
    Calls Try.prog 68 #[.pointer (some ⟨p, 0, none⟩), .iface 77 (.slice (some ⟨g, 0, none⟩) xs.length cap), .int .i64 deep] w (Parted p w r0 b0) := by
  have HO := Lib.hid (own_any (.dict ns xs) _ _ n deep w h)
  rw [hy] at HO
  have hlt := ownE_lt hy
  have hwn : IntKind.i64.wrap (n + 1) = n + 1 := IntWalk.i64_in _ ⟨by omega, by omega⟩
  have hwd : IntKind.i64.wrap (deep + 1) = deep + 1 := IntWalk.i64_in _ ⟨by omega, by omega⟩
  have HP := Lib.hid hp
  obtain ⟨c0, c1, c2⟩ := cnt_cells hp
  dsimp only at c0 c1 c2
  obtain ⟨a1, a2, a3, a4, a5, a6, a7, a8, a9⟩ := tas_dict
  have hpS0 : p ∉ g :: Ss := hpS
  have HC : Hid (∀ w', Blk w' p 143 (cnt (n + 1, m, 0)) → Fr [p] w w' → Calls Try.prog 91 #[.pointer (some ⟨p, 0, none⟩), .slice (some ⟨g, 0, none⟩) xs.length cap, .int .i64 deep] w' (Parted p w' r0 b0)) :=
    Lib.hid fun w' hb hf => all_any ns xs g cap vs Ss w' p (n + 1) m deep (hr.fr hf (fun e => hpS0 (by simp at e; simp [e]))) (hv.fr hf (fun b hm => by simp; rintro rfl; exact hpS0 (by simp [hm]))) hns hpS0 hb (by omega) (by omega) hd hlt.2 ih r0 hr0 b0 hb0 hlen
  clear h hp hy hr hv hpS hr0 hb0 ih
  rcases hm with ⟨hm, hme⟩ | ⟨hm, hme⟩ <;> subst m
  · go_enter Try.func68, Try.ntmps68
    go_wp2_with (first | (go_at_call 90; refine HO.out.mono ?_; rintro e w1 ⟨rfl, hb⟩; have p1 := HP.out.below hb; have q0 := p1.cell 0; have q1 := p1.cell 1; have q2 := p1.cell 2; have f0 := p1.free 0; have f1 := p1.free 1; have f2 := p1.free 2; dsimp only [cnt] at q0 q1 q2; have HFR := Lib.hid ((((Fr.of_below hb [p]).set (p := ⟨p, 2, none⟩) (.inl (by simp)) (.int .i64 0)).set (p := ⟨p, 0, none⟩) (.inl (by simp)) (.int .i64 (n + 1))).set (p := ⟨p, 1, none⟩) (.inl (by simp)) (.int .i64 deep))) | (go_at_call 91; refine (HC.out _ (by simpa [cnt] using ((p1.set 2 (.int .i64 0)).set 0 (.int .i64 (n + 1))).set 1 (.int .i64 deep)) HFR.out).mono ?_; rintro e w2 ⟨rfl, hblk2, hfr2⟩))
    go_ret
    exact ⟨rfl, hblk2, HFR.out.trans hfr2⟩
  · go_enter Try.func68, Try.ntmps68
    go_wp2_with (first | (go_at_call 90; refine HO.out.mono ?_; rintro e w1 ⟨rfl, hb⟩; have p1 := HP.out.below hb; have q0 := p1.cell 0; have q1 := p1.cell 1; have q2 := p1.cell 2; have f0 := p1.free 0; have f1 := p1.free 1; have f2 := p1.free 2; dsimp only [cnt] at q0 q1 q2; have HFR := Lib.hid ((((Fr.of_below hb [p]).set (p := ⟨p, 2, none⟩) (.inl (by simp)) (.int .i64 0)).set (p := ⟨p, 0, none⟩) (.inl (by simp)) (.int .i64 (n + 1))).set (p := ⟨p, 1, none⟩) (.inl (by simp)) (.int .i64 d))) | (go_at_call 91; refine (HC.out _ (by simpa [cnt] using ((p1.set 2 (.int .i64 0)).set 0 (.int .i64 (n + 1))).set 1 (.int .i64 d)) HFR.out).mono ?_; rintro e w2 ⟨rfl, hblk2, hfr2⟩))
    go_ret
    exact ⟨rfl, hblk2, HFR.out.trans hfr2⟩

set_option maxRecDepth 20000 in
set_option maxHeartbeats 2000000 in
theorem part_recd (c : ByteArray) (r : Int) (q : Nat) (ns : List ByteArray) (xs : List V) (g cap : Nat) (vs : List Value) (Ss : List Nat) (w : World) (p : Nat) (n d y0 deep : Int) (h : VAt w (.recd c r ns xs) (.iface 79 (.pointer (some ⟨q, 0, none⟩))) (q :: g :: Ss))
    (hq : Blk w q 81 #[.string c, .int .i64 r, .slice (some ⟨g, 0, none⟩) xs.length cap]) (hr : Row w 112 2 g cap xs.length (fldCells ns vs)) (hv : VsAt w xs vs Ss) (hns : ns.length = xs.length) (hpS : p ∉ q :: g :: Ss) (hp : Blk w p 143 (cnt (n, d, y0))) (hy : ownE (.recd c r ns xs) n deep = 0) (h0 : 0 ≤ n) (hd : 0 ≤ deep)
    (ih : ∀ x ∈ xs, PartAt x) (m : Int) (hm : (d < deep ∧ m = deep) ∨ (deep ≤ d ∧ m = d)) (r0 : Int × Int × Int) (hr0 : partsV xs (deep + 1) (n + 1) m = r0) (b0 : Bool) (hb0 : decide (r0.2.2 = 0) = b0) (hlen : xs.length ≤ 1048576) :
    Calls Try.prog 68 #[.pointer (some ⟨p, 0, none⟩), .iface 79 (.pointer (some ⟨q, 0, none⟩)), .int .i64 deep] w (Parted p w r0 b0) := by
  have HO := Lib.hid (own_any (.recd c r ns xs) _ _ n deep w h)
  rw [hy] at HO
  have hlt := ownE_lt hy
  have hwn : IntKind.i64.wrap (n + 1) = n + 1 := IntWalk.i64_in _ ⟨by omega, by omega⟩
  have hwd : IntKind.i64.wrap (deep + 1) = deep + 1 := IntWalk.i64_in _ ⟨by omega, by omega⟩
  have HP := Lib.hid hp
  obtain ⟨c0, c1, c2⟩ := cnt_cells hp
  dsimp only at c0 c1 c2
  obtain ⟨a1, a2, a3, a4, a5, a6, a7, a8, a9⟩ := tas_rec
  have hpS0 : p ∉ g :: Ss := fun e => hpS (List.mem_cons_of_mem _ e)
  have HC : Hid (∀ w', Blk w' p 143 (cnt (n + 1, m, 0)) → Fr [p] w w' → Calls Try.prog 91 #[.pointer (some ⟨p, 0, none⟩), .slice (some ⟨g, 0, none⟩) xs.length cap, .int .i64 deep] w' (Parted p w' r0 b0)) :=
    Lib.hid fun w' hb hf => all_any ns xs g cap vs Ss w' p (n + 1) m deep (hr.fr hf (fun e => hpS0 (by simp at e; simp [e]))) (hv.fr hf (fun b hm => by simp; rintro rfl; exact hpS0 (by simp [hm]))) hns hpS0 hb (by omega) (by omega) hd hlt.2 ih r0 hr0 b0 hb0 hlen
  have hqp : ¬ q = p := fun e => hpS (by simp [e])
  have HBL := Lib.hid hq
  have hq2 := hq.cell 2
  clear hq
  clear h hp hy hr hv hpS hr0 hb0 ih
  rcases hm with ⟨hm, hme⟩ | ⟨hm, hme⟩ <;> subst m
  · go_enter Try.func68, Try.ntmps68
    go_wp2_with (first | (go_at_call 90; refine HO.out.mono ?_; rintro e w1 ⟨rfl, hb⟩; have p1 := HP.out.below hb; have q0 := p1.cell 0; have q1 := p1.cell 1; have q2 := p1.cell 2; have f0 := p1.free 0; have f1 := p1.free 1; have f2 := p1.free 2; dsimp only [cnt] at q0 q1 q2; have HFR := Lib.hid ((((Fr.of_below hb [p]).set (p := ⟨p, 2, none⟩) (.inl (by simp)) (.int .i64 0)).set (p := ⟨p, 0, none⟩) (.inl (by simp)) (.int .i64 (n + 1))).set (p := ⟨p, 1, none⟩) (.inl (by simp)) (.int .i64 deep)); have l2 := (HBL.out.below hb).cell 2) | (go_at_call 91; refine (HC.out _ (by simpa [cnt] using ((p1.set 2 (.int .i64 0)).set 0 (.int .i64 (n + 1))).set 1 (.int .i64 deep)) HFR.out).mono ?_; rintro e w2 ⟨rfl, hblk2, hfr2⟩))
    go_ret
    exact ⟨rfl, hblk2, HFR.out.trans hfr2⟩
  · go_enter Try.func68, Try.ntmps68
    go_wp2_with (first | (go_at_call 90; refine HO.out.mono ?_; rintro e w1 ⟨rfl, hb⟩; have p1 := HP.out.below hb; have q0 := p1.cell 0; have q1 := p1.cell 1; have q2 := p1.cell 2; have f0 := p1.free 0; have f1 := p1.free 1; have f2 := p1.free 2; dsimp only [cnt] at q0 q1 q2; have HFR := Lib.hid ((((Fr.of_below hb [p]).set (p := ⟨p, 2, none⟩) (.inl (by simp)) (.int .i64 0)).set (p := ⟨p, 0, none⟩) (.inl (by simp)) (.int .i64 (n + 1))).set (p := ⟨p, 1, none⟩) (.inl (by simp)) (.int .i64 d)); have l2 := (HBL.out.below hb).cell 2) | (go_at_call 91; refine (HC.out _ (by simpa [cnt] using ((p1.set 2 (.int .i64 0)).set 0 (.int .i64 (n + 1))).set 1 (.int .i64 d)) HFR.out).mono ?_; rintro e w2 ⟨rfl, hblk2, hfr2⟩))
    go_ret
    exact ⟨rfl, hblk2, HFR.out.trans hfr2⟩

theorem max_alt (d deep : Int) : (d < deep ∧ (if d < deep then deep else d) = deep) ∨ (deep ≤ d ∧ (if d < deep then deep else d) = d) := by
  by_cases h : d < deep
  · exact Or.inl ⟨h, if_pos h⟩
  · exact Or.inr ⟨by omega, if_neg h⟩

theorem part_any : ∀ (k : Nat) (x : V), SizeOf.sizeOf x < k → PartAt x := by
  intro k
  induction k with
  | zero => intro x hx; omega
  | succ k ihk =>
    intro x hx v S w p n d y deep h hpS hp h0 h1 hd
    cases x with
    | list xs =>
      have hh := h
      obtain ⟨g, cap, vs, Ss, rfl, hr, hv, rfl, hlen⟩ := (by simpa only [VAt] using h)
      by_cases hy : ownE (.list xs) n deep = 0
      · simp only [partV, if_pos hy]
        exact part_list xs g cap vs Ss w p n d y deep hh hr hv hpS hp hy h0 hd (fun t ht => ihk t (by have := List.sizeOf_lt_of_mem ht; simp at hx; omega)) _ (max_alt d deep) _ rfl _ rfl hlen
      · simp only [partV, if_neg hy]
        rw [decide_eq_false (by simpa using hy)]
        exact part_bad _ _ _ w p n d y deep _ hh hp rfl hy
    | dict ns xs =>
      have hh := h
      obtain ⟨g, cap, vs, Ss, rfl, hr, hv, rfl, hns, hlen, _⟩ := (by simpa only [VAt] using h)
      by_cases hy : ownE (.dict ns xs) n deep = 0
      · simp only [partV, if_pos hy]
        exact part_dict ns xs g cap vs Ss w p n d y deep hh hr hv hns hpS hp hy h0 hd (fun t ht => ihk t (by have := List.sizeOf_lt_of_mem ht; simp at hx; omega)) _ (max_alt d deep) _ rfl _ rfl hlen
      · simp only [partV, if_neg hy]
        rw [decide_eq_false (by simpa using hy)]
        exact part_bad _ _ _ w p n d y deep _ hh hp rfl hy
    | recd c r ns xs =>
      have hh := h
      obtain ⟨q, g, cap, vs, Ss, rfl, hq, hr, hv, rfl, hns, hlen, _⟩ := (by simpa only [VAt] using h)
      by_cases hy : ownE (.recd c r ns xs) n deep = 0
      · simp only [partV, if_pos hy]
        exact part_recd c r q ns xs g cap vs Ss w p n d y deep hh hq hr hv hns hpS hp hy h0 hd (fun t ht => ihk t (by have := List.sizeOf_lt_of_mem ht; simp at hx; omega)) _ (max_alt d deep) _ rfl _ rfl hlen
      · simp only [partV, if_neg hy]
        rw [decide_eq_false (by simpa using hy)]
        exact part_bad _ _ _ w p n d y deep _ hh hp rfl hy
    | nil =>
      have hh := h
      obtain ⟨rfl, _⟩ := (by simpa only [VAt] using h)
      by_cases hy : ownE (.nil) n deep = 0
      · simp only [partV, if_pos hy]
        obtain ⟨a1, a2, a3, a4, a5, a6, a7, a8, a9⟩ := tas_nil
        exact part_leaf _ _ _ w p n d y deep hh hp hy h0 hd _ (max_alt d deep) ⟨_, fun w => a7 w⟩ ⟨_, fun w => a8 w⟩ ⟨_, fun w => a9 w⟩
      · simp only [partV, if_neg hy]
        rw [decide_eq_false (by simpa using hy)]
        exact part_bad _ _ _ w p n d y deep _ hh hp rfl hy
    | bool b =>
      have hh := h
      obtain ⟨rfl, _⟩ := (by simpa only [VAt] using h)
      by_cases hy : ownE (.bool b) n deep = 0
      · simp only [partV, if_pos hy]
        obtain ⟨a1, a2, a3, a4, a5, a6, a7, a8, a9⟩ := tas_bool
        exact part_leaf _ _ _ w p n d y deep hh hp hy h0 hd _ (max_alt d deep) ⟨_, fun w => a7 _ w⟩ ⟨_, fun w => a8 _ w⟩ ⟨_, fun w => a9 _ w⟩
      · simp only [partV, if_neg hy]
        rw [decide_eq_false (by simpa using hy)]
        exact part_bad _ _ _ w p n d y deep _ hh hp rfl hy
    | int b =>
      have hh := h
      obtain ⟨rfl, _⟩ := (by simpa only [VAt] using h)
      by_cases hy : ownE (.int b) n deep = 0
      · simp only [partV, if_pos hy]
        obtain ⟨a1, a2, a3, a4, a5, a6, a7, a8, a9⟩ := tas_int
        exact part_leaf _ _ _ w p n d y deep hh hp hy h0 hd _ (max_alt d deep) ⟨_, fun w => a7 _ w⟩ ⟨_, fun w => a8 _ w⟩ ⟨_, fun w => a9 _ w⟩
      · simp only [partV, if_neg hy]
        rw [decide_eq_false (by simpa using hy)]
        exact part_bad _ _ _ w p n d y deep _ hh hp rfl hy
    | float b =>
      have hh := h
      obtain ⟨rfl, _⟩ := (by simpa only [VAt] using h)
      by_cases hy : ownE (.float b) n deep = 0
      · simp only [partV, if_pos hy]
        obtain ⟨a1, a2, a3, a4, a5, a6, a7, a8, a9⟩ := tas_float
        exact part_leaf _ _ _ w p n d y deep hh hp hy h0 hd _ (max_alt d deep) ⟨_, fun w => a7 _ w⟩ ⟨_, fun w => a8 _ w⟩ ⟨_, fun w => a9 _ w⟩
      · simp only [partV, if_neg hy]
        rw [decide_eq_false (by simpa using hy)]
        exact part_bad _ _ _ w p n d y deep _ hh hp rfl hy
    | text b =>
      have hh := h
      obtain ⟨rfl, _⟩ := (by simpa only [VAt] using h)
      by_cases hy : ownE (.text b) n deep = 0
      · simp only [partV, if_pos hy]
        obtain ⟨a1, a2, a3, a4, a5, a6, a7, a8, a9⟩ := tas_text
        exact part_leaf _ _ _ w p n d y deep hh hp hy h0 hd _ (max_alt d deep) ⟨_, fun w => a7 _ w⟩ ⟨_, fun w => a8 _ w⟩ ⟨_, fun w => a9 _ w⟩
      · simp only [partV, if_neg hy]
        rw [decide_eq_false (by simpa using hy)]
        exact part_bad _ _ _ w p n d y deep _ hh hp rfl hy
    | bytes b =>
      have hh := h
      obtain ⟨g, cap, rfl, _⟩ := (by simpa only [VAt] using h)
      by_cases hy : ownE (.bytes b) n deep = 0
      · simp only [partV, if_pos hy]
        obtain ⟨a1, a2, a3, a4, a5, a6, a7, a8, a9⟩ := tas_bytes
        exact part_leaf _ _ _ w p n d y deep hh hp hy h0 hd _ (max_alt d deep) ⟨_, fun w => a7 _ w⟩ ⟨_, fun w => a8 _ w⟩ ⟨_, fun w => a9 _ w⟩
      · simp only [partV, if_neg hy]
        rw [decide_eq_false (by simpa using hy)]
        exact part_bad _ _ _ w p n d y deep _ hh hp rfl hy
    | ref b =>
      have hh := h
      obtain ⟨rfl, _⟩ := (by simpa only [VAt] using h)
      by_cases hy : ownE (.ref b) n deep = 0
      · simp only [partV, if_pos hy]
        obtain ⟨a1, a2, a3, a4, a5, a6, a7, a8, a9⟩ := tas_ref
        exact part_leaf _ _ _ w p n d y deep hh hp hy h0 hd _ (max_alt d deep) ⟨_, fun w => a7 _ w⟩ ⟨_, fun w => a8 _ w⟩ ⟨_, fun w => a9 _ w⟩
      · simp only [partV, if_neg hy]
        rw [decide_eq_false (by simpa using hy)]
        exact part_bad _ _ _ w p n d y deep _ hh hp rfl hy
    | alien =>
      have hh := h
      obtain ⟨T, u, rfl, hT, _⟩ := (by simpa only [VAt] using h)
      by_cases hy : ownE (.alien) n deep = 0
      · simp only [partV, if_pos hy]
        obtain ⟨a1, a2, a3, a4, a5, a6, a7, a8, a9⟩ := tas_alien hT
        exact part_leaf _ _ _ w p n d y deep hh hp hy h0 hd _ (max_alt d deep) ⟨_, fun w => a7 _ w⟩ ⟨_, fun w => a8 _ w⟩ ⟨_, fun w => a9 _ w⟩
      · simp only [partV, if_neg hy]
        rw [decide_eq_false (by simpa using hy)]
        exact part_bad _ _ _ w p n d y deep _ hh hp rfl hy
    | nothing =>
      have hh := h
      have hy : ¬ ownE .nothing n deep = 0 := by unfold ownE; split <;> simp [ownX, ownS]
      simp only [partV, if_neg hy]
      rw [decide_eq_false (by simpa using hy)]
      exact part_bad _ _ _ w p n d y deep _ hh hp rfl hy

theorem part (x : V) : PartAt x := part_any _ x (Nat.lt_succ_self _)

/-- what 'check' tells of a value -/
def checkV (x : V) : Int × Int := if (partV x 1 0 0).2.2 = 0 then (0, 0) else ((partV x 1 0 0).1, (partV x 1 0 0).2.2)
def Checked (c : Int × Int) (w : World) (e : Ending) (w' : World) : Prop := e = .returned (.tuple #[.int .i64 c.1, .int .i64 c.2]) ∧ Below w.heap.size w w'

theorem check_any (x : V) (v : Value) (S : List Nat) (w : World) (h : VAt w x v S) : Calls Try.prog 49 #[v] w (Checked (checkV x) w) := by
  have HAL := Lib.hid ((Below.refl w.heap.size w).alloc (Nat.le_refl _) (.cells #[.int .i64 0, .int .i64 0, .int .i64 0] 143))
  have hpS : w.heap.size ∉ S := fun hm => by have := VAt.lt x h _ hm; omega
  have hpart := part x v S _ w.heap.size 0 0 0 1 (h.below HAL.out) hpS (Blk.new w 143 (cnt (0, 0, 0))) (by omega) (by omega) (by omega)
  have hform := h.form
  unfold checkV
  generalize partV x 1 0 0 = r at hpart ⊢
  obtain ⟨rn, rd, ry⟩ := r
  have HPART := Lib.hid hpart
  clear hpart h
  dsimp only [cnt] at HPART ⊢
  have hnew : w.frozen? ⟨w.heap.size, 0, none⟩ = w.frozen? ⟨w.heap.size, 0, none⟩ := rfl
  clear hnew
  by_cases hq : ry = 0
  · subst hq
    simp only [if_true]
    rcases hform with rfl | ⟨T, u, rfl⟩
    all_goals
      go_enter Try.func49, Try.ntmps49
      go_wp2_with (first | (go_at_call 68; refine HPART.out.mono ?_; rintro e w2 ⟨rfl, hblk2, hfr2⟩))
      go_ret2
      exact ⟨rfl, HAL.out.trans (hfr2.below _ (by simp) (by simp))⟩
  · rw [if_neg hq]
    have hqb : decide (ry = 0) = false := by simpa using hq
    rcases hform with rfl | ⟨T, u, rfl⟩
    all_goals
      go_enter Try.func49, Try.ntmps49
      go_wp2_with (first | (go_at_call 68; refine HPART.out.mono ?_; rintro e w2 ⟨rfl, hblk2, hfr2⟩; have q0 := hblk2.cell 0; have q2 := hblk2.cell 2; dsimp only [cnt] at q0 q2))
      go_region
      go_wp2
      go_ret2
      have hbb := hfr2.below w.heap.size (by simp) (by simp)
      exact ⟨rfl, HAL.out.trans ⟨hbb.os, hbb.tape, hbb.output, hbb.size, hbb.block⟩⟩

theorem checkE_any (x : V) (v : Value) (S : List Nat) (w : World) (h : VAt w x v S) : Calls Try.prog 30 #[v] w (Checked (checkV x) w) := by
  have hc := Lib.hid (check_any x v S w h)
  have hform := h.form
  generalize checkV x = r at hc ⊢
  obtain ⟨a, b⟩ := r
  clear h
  rcases hform with rfl | ⟨T, u, rfl⟩
  all_goals
    go_enter Try.func30, Try.ntmps30
    go_wp2_with (first | (go_at_call 49; refine hc.out.mono ?_; rintro e w2 ⟨rfl, hb⟩))
    go_ret2
    exact ⟨rfl, hb⟩

end Go.Proofs.Ythanmakakcmkeaa
