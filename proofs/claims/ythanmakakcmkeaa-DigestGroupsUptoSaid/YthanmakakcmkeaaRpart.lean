/- tenonref01.seen.part, Check. -/
import Derived.Test.YthanmakakcmkeaaRparts
import Derived.Handy
namespace Go.Proofs.Ythanmakakcmkeaa
open Go.RowKit

def sn (n d a y : Int) : Array Value := #[.int .i64 n, .int .i64 d, .int .i64 a, .int .i64 y]
/-- what 'part' hands back -/
def seenOf (a : Int) (r : Int × Int × Int) : Array Value := sn r.1 r.2.1 (if r.2.2 = 0 then a else r.1) r.2.2
def Seen (w : World) (a : Int) (r : Int × Int × Int) (e : Ending) (w' : World) : Prop := e = .returned (.agg (seenOf a r)) ∧ Below w.heap.size w w'
def SeenAt (t : Tm) : Prop := ∀ (cs : List Value) (w : World) (B : Nat) (n d a deep : Int), B ≤ w.heap.size → TmAt w B t cs → 0 ≤ n → n ≤ 16384 → 0 ≤ deep →
  Calls Try.prog 54 #[.agg (sn n d a 0), .agg cs.toArray, .int .i64 deep] w (Seen w a (partV (build t) deep n d))


theorem Blk.drew {w : World} {g : Nat} {t : TypeId} {cs : Array Value} (h : Blk w g t cs) : Blk w.drew g t cs := h
theorem size_set (w : World) (p : Addr) (u : Value) : (w.setCell p u).heap.size = w.heap.size := by simp [World.setCell]
theorem Blk.setne {w : World} {g : Nat} {t : TypeId} {cs : Array Value} (h : Blk w g t cs) {p : Addr} (hp : p.block ≠ g) (u : Value) : Blk (w.setCell p u) g t cs := h.same (Below.heap_setCell w p u g (Ne.symm hp))
theorem below_set {B : Nat} {a w : World} (h : Below B a w) {p : Addr} (hp : B ≤ p.block) (u : Value) : Below B a (w.setCell p u) :=
  ⟨h.os, h.tape, h.output, by simpa [World.setCell] using h.size, fun i hi => (Below.heap_setCell w p u i (by omega)).trans (h.block i hi)⟩
theorem seen_size : (Try.prog.info? 129).map (·.size) = some 4 := by kernel_rfl
/-- a struct of four cells is laid over a block -/
theorem Blk.set4 {w : World} {g : Nat} {t : TypeId} {x0 x1 x2 x3 : Value} (h : Blk w g t #[x0, x1, x2, x3]) (y0 y1 y2 y3 : Value) :
    Blk ((((w.setCell ⟨g, 0, none⟩ y0).setCell ⟨g, 1, none⟩ y1).setCell ⟨g, 2, none⟩ y2).setCell ⟨g, 3, none⟩ y3) g t #[y0, y1, y2, y3] := by
  simpa using (((h.set 0 y0).set 1 y1).set 2 y2).set 3 y3
theorem below_set4 {B : Nat} {a w : World} (h : Below B a w) {g : Nat} (hp : B ≤ g) (y0 y1 y2 y3 : Value) :
    Below B a ((((w.setCell ⟨g, 0, none⟩ y0).setCell ⟨g, 1, none⟩ y1).setCell ⟨g, 2, none⟩ y2).setCell ⟨g, 3, none⟩ y3) :=
  below_set (below_set (below_set (below_set h hp _) hp _) hp _) hp _
theorem Blk.setne4 {w : World} {g q : Nat} {t : TypeId} {cs : Array Value} (h : Blk w q t cs) (hp : g ≠ q) (y0 y1 y2 y3 : Value) :
    Blk ((((w.setCell ⟨g, 0, none⟩ y0).setCell ⟨g, 1, none⟩ y1).setCell ⟨g, 2, none⟩ y2).setCell ⟨g, 3, none⟩ y3) q t cs :=
  (((h.setne hp _).setne hp _).setne hp _).setne hp _
theorem fr_set4 {S : List Nat} {a w : World} (h : Fr S a w) {g : Nat} (hp : g ∈ S) (y0 y1 y2 y3 : Value) :
    Fr S a ((((w.setCell ⟨g, 0, none⟩ y0).setCell ⟨g, 1, none⟩ y1).setCell ⟨g, 2, none⟩ y2).setCell ⟨g, 3, none⟩ y3) :=
  (((h.set (.inl hp) _).set (.inl hp) _).set (.inl hp) _).set (.inl hp) _

theorem rpart_bad (t : Tm) (r0 r1 r2 r3 r4 r5 r6 r7 r8 r9 r10 : Value) (w : World) (B : Nat) (n d a deep y : Int) (hB : B ≤ w.heap.size) (h : TmAt w B t [r0, r1, r2, r3, r4, r5, r6, r7, r8, r9, r10]) (hy : ownE (build t) n deep = y) (hy0 : y ≠ 0) :
    Calls Try.prog 54 #[.agg (sn n d a 0), .agg #[r0, r1, r2, r3, r4, r5, r6, r7, r8, r9, r10], .int .i64 deep] w (fun e w' => e = .returned (.agg (sn n d n y)) ∧ Below w.heap.size w w') := by
  have hbl : Below w.heap.size w (((w.alloc (.cells (sn n d a 0) 129)).alloc (.cells #[r0, r1, r2, r3, r4, r5, r6, r7, r8, r9, r10] 31)).alloc (.cells (sn 0 0 0 0) 129)) := (((Below.refl _ _).alloc (Nat.le_refl _) _).alloc (by simp) _).alloc (by simp; omega) _
  have hO := rown_any t [r0, r1, r2, r3, r4, r5, r6, r7, r8, r9, r10] (((w.alloc (.cells (sn n d a 0) 129)).alloc (.cells #[r0, r1, r2, r3, r4, r5, r6, r7, r8, r9, r10] 31)).alloc (.cells (sn 0 0 0 0) 129)) B n deep (Nat.le_trans hB hbl.size) (h.below hbl hB)
  rw [hy] at hO
  have p3 : Blk (((w.alloc (.cells (sn n d a 0) 129)).alloc (.cells #[r0, r1, r2, r3, r4, r5, r6, r7, r8, r9, r10] 31)).alloc (.cells (sn 0 0 0 0) 129)) w.heap.size 129 (sn n d a 0) := ((Blk.new w _ _).alloc _).alloc _
  have p4 : Blk (((w.alloc (.cells (sn n d a 0) 129)).alloc (.cells #[r0, r1, r2, r3, r4, r5, r6, r7, r8, r9, r10] 31)).alloc (.cells (sn 0 0 0 0) 129)) (w.heap.size + 1) 31 #[r0, r1, r2, r3, r4, r5, r6, r7, r8, r9, r10] := by have := (Blk.new (w.alloc (.cells (sn n d a 0) 129)) 31 #[r0, r1, r2, r3, r4, r5, r6, r7, r8, r9, r10]).alloc (.cells (sn 0 0 0 0) 129); simpa using this
  have p6 : Blk (((w.alloc (.cells (sn n d a 0) 129)).alloc (.cells #[r0, r1, r2, r3, r4, r5, r6, r7, r8, r9, r10] 31)).alloc (.cells (sn 0 0 0 0) 129)) (w.heap.size + 1 + 1) 129 (sn 0 0 0 0) := by have := Blk.new ((w.alloc (.cells (sn n d a 0) 129)).alloc (.cells #[r0, r1, r2, r3, r4, r5, r6, r7, r8, r9, r10] 31)) 129 (sn 0 0 0 0); simpa using this
  have HBL := Lib.hid hbl
  have HO := Lib.hid hO
  have P3 := Lib.hid p3
  have P4 := Lib.hid p4
  have P6 := Lib.hid p6
  have hb0 : (y != 0) = true := by simpa using hy0
  dsimp only [sn] at HO HBL P3 P6 ⊢
  clear hO hbl h hy p3 p4 p6
  go_enter Try.func54, Try.ntmps54
  go_wp2_with (first | (go_at_call 72; refine HO.out.mono ?_; rintro e w1 ⟨rfl, hb⟩; have b3 := P3.out.below hb; have b4 := P4.out.below hb; have b6 := P6.out.below hb; have s0 := b3.cell 0; have s1 := b3.cell 1; have s2 := b3.cell 2; have s3 := b3.cell 3; have f0 := b3.free 0; have f1 := b3.free 1; have f2 := b3.free 2; have f3 := b3.free 3; have u0 := b6.cell 0; have u1 := b6.cell 1; have u2 := b6.cell 2; have u3 := b6.cell 3; have g0 := b6.free 0; have g1 := b6.free 1; have g2 := b6.free 2; have g3 := b6.free 3))
  refine bodyPost_ret (results_cell_row rfl _ _ (w.heap.size + 1 + 1) 129 (sn n d n y) (0, 0) _ rfl (((b6.setne (by simp; omega) _).setne (by simp; omega) _).set4 _ _ _ _) Try.underlying129 rfl seen_size) rfl ?_
  exact ⟨rfl, below_set4 (below_set (below_set (HBL.out.trans (hb.mono (by simp; omega))) (by simp) _) (by simp) _) (by omega) _ _ _ _⟩

set_option maxRecDepth 100000 in
set_option maxHeartbeats 4000000 in
theorem rpart_deeper (t : Tm) (r0 r1 r2 r3 r4 r5 r6 r7 r8 r9 r10 : Value) (w : World) (B : Nat) (n d a deep : Int) (hB : B ≤ w.heap.size) (h : TmAt w B t [r0, r1, r2, r3, r4, r5, r6, r7, r8, r9, r10]) (hy : ownE (build t) n deep = 0) (hc : d < deep) (h0 : 0 ≤ n) (hd : 0 ≤ deep)
    (ih : ∀ u ∈ kidsT t, SeenAt u) (hkl : (kidsT t).length ≤ 1048576) (R : Int × Int × Int) (hR : partsV (builds (kidsT t)) (deep + 1) (n + 1) deep = R) :
    Calls Try.prog 54 #[.agg (sn n d a 0), .agg #[r0, r1, r2, r3, r4, r5, r6, r7, r8, r9, r10], .int .i64 deep] w (Seen w a R) := by
  have hbl : Below w.heap.size w (((w.alloc (.cells (sn n d a 0) 129)).alloc (.cells #[r0, r1, r2, r3, r4, r5, r6, r7, r8, r9, r10] 31)).alloc (.cells (sn 0 0 0 0) 129)) := (((Below.refl _ _).alloc (Nat.le_refl _) _).alloc (by simp) _).alloc (by simp; omega) _
  have hO := rown_any t [r0, r1, r2, r3, r4, r5, r6, r7, r8, r9, r10] (((w.alloc (.cells (sn n d a 0) 129)).alloc (.cells #[r0, r1, r2, r3, r4, r5, r6, r7, r8, r9, r10] 31)).alloc (.cells (sn 0 0 0 0) 129)) B n deep (Nat.le_trans hB hbl.size) (h.below hbl hB)
  rw [hy] at hO
  have p3 : Blk (((w.alloc (.cells (sn n d a 0) 129)).alloc (.cells #[r0, r1, r2, r3, r4, r5, r6, r7, r8, r9, r10] 31)).alloc (.cells (sn 0 0 0 0) 129)) w.heap.size 129 (sn n d a 0) := ((Blk.new w _ _).alloc _).alloc _
  have p4 : Blk (((w.alloc (.cells (sn n d a 0) 129)).alloc (.cells #[r0, r1, r2, r3, r4, r5, r6, r7, r8, r9, r10] 31)).alloc (.cells (sn 0 0 0 0) 129)) (w.heap.size + 1) 31 #[r0, r1, r2, r3, r4, r5, r6, r7, r8, r9, r10] := by have := (Blk.new (w.alloc (.cells (sn n d a 0) 129)) 31 #[r0, r1, r2, r3, r4, r5, r6, r7, r8, r9, r10]).alloc (.cells (sn 0 0 0 0) 129); simpa using this
  have p6 : Blk (((w.alloc (.cells (sn n d a 0) 129)).alloc (.cells #[r0, r1, r2, r3, r4, r5, r6, r7, r8, r9, r10] 31)).alloc (.cells (sn 0 0 0 0) 129)) (w.heap.size + 1 + 1) 129 (sn 0 0 0 0) := by have := Blk.new ((w.alloc (.cells (sn n d a 0) 129)).alloc (.cells #[r0, r1, r2, r3, r4, r5, r6, r7, r8, r9, r10] 31)) 129 (sn 0 0 0 0); simpa using this
  have HBL := Lib.hid hbl
  have HO := Lib.hid hO
  have P3 := Lib.hid p3
  have P4 := Lib.hid p4
  have P6 := Lib.hid p6
  have hlt := ownE_lt hy
  have hwn : IntKind.i64.wrap (n + 1) = n + 1 := IntWalk.i64_in _ ⟨by omega, by omega⟩
  have hwd : IntKind.i64.wrap (deep + 1) = deep + 1 := IntWalk.i64_in _ ⟨by omega, by omega⟩
  have HPT : Hid (∀ w', Below w.heap.size w w' → Calls Try.prog 73 #[.agg #[r0, r1, r2, r3, r4, r5, r6, r7, r8, r9, r10]] w' (fun e w'' => TmsGive B w'.heap.size (kidsT t) e w'' ∧ Below w'.heap.size w' w'')) :=
    Lib.hid fun w' hb => rparts_any t [r0, r1, r2, r3, r4, r5, r6, r7, r8, r9, r10] w' B (Nat.le_trans hB hb.size) (h.below hb hB)
  have HR := Lib.hid hR
  have HIH := Lib.hid ih
  dsimp only [sn] at HO HBL P3 P4 P6 ⊢
  generalize kidsT t = ks at HPT HR HIH hkl
  clear hO hbl h hy p3 p4 p6 hR ih
  go_enter Try.func54, Try.ntmps54
  go_wp2_with (first | (go_at_call 72; refine HO.out.mono ?_; rintro e w1 ⟨rfl, hb⟩; have b3 := P3.out.below hb; have b4 := P4.out.below hb; have b6 := P6.out.below hb; have s0 := b3.cell 0; have s1 := b3.cell 1; have s2 := b3.cell 2; have s3 := b3.cell 3; have f0 := b3.free 0; have f1 := b3.free 1; have f2 := b3.free 2; have f3 := b3.free 3; have u0 := b6.cell 0; have u1 := b6.cell 1; have u2 := b6.cell 2; have u3 := b6.cell 3; have g0 := b6.free 0; have g1 := b6.free 1; have g2 := b6.free 2; have g3 := b6.free 3; have q0 := b4.cell 0; have q1 := b4.cell 1; have q2 := b4.cell 2; have q3 := b4.cell 3; have q4 := b4.cell 4; have q5 := b4.cell 5; have q6 := b4.cell 6; have q7 := b4.cell 7; have q8 := b4.cell 8; have q9 := b4.cell 9; have q10 := b4.cell 10; have hw1s : w.heap.size + 3 ≤ w1.heap.size := (by have := hb.size; simp at this; omega); have HB1 := Lib.hid (HBL.out.trans (hb.mono (by simp; omega)))) | (go_at_call 73; refine (HPT.out _ (below_set (p := ⟨w.heap.size, 1, none⟩) (below_set (p := ⟨w.heap.size, 0, none⟩) HB1.out (by simp) (.int .i64 (n + 1))) (by simp) (.int .i64 deep))).mono ?_; rintro e w3 ⟨⟨A, cA, rows, rfl, h11, hrows, hsl⟩, hb3⟩; simp only [size_set] at hsl; have c3 := ((by simpa using (b3.set 0 (.int .i64 (n + 1))).set 1 (.int .i64 deep) : Blk ((w1.setCell ⟨w.heap.size, 0, none⟩ (.int .i64 (n + 1))).setCell ⟨w.heap.size, 1, none⟩ (.int .i64 deep)) w.heap.size 129 #[.int .i64 (n + 1), .int .i64 deep, .int .i64 a, .int .i64 0])).below hb3; have c6 := (((b6.setne (p := ⟨w.heap.size, 0, none⟩) (by simp; omega) (.int .i64 (n + 1))).setne (p := ⟨w.heap.size, 1, none⟩) (by simp; omega) (.int .i64 deep))).below hb3; have HB3 := Lib.hid ((below_set (p := ⟨w.heap.size, 1, none⟩) (below_set (p := ⟨w.heap.size, 0, none⟩) HB1.out (by simp) (.int .i64 (n + 1))) (by simp) (.int .i64 deep)).trans (hb3.mono (by have := HB1.out.size; simp; omega)))))
  clear s0 s1 s2 s3 f0 f1 f2 f3 u0 u1 u2 u3 g0 g1 g2 g3 q0 q1 q2 q3 q4 q5 q6 q7 q8 q9 q10 b3 b4 b6
  have HC3 := Lib.hid c3
  have HC6 := Lib.hid c6
  have HROWS := Lib.hid hrows
  have H11 := Lib.hid h11
  have HSL := Lib.hid hsl
  clear c3 c6 hrows h11 hsl
  go_loopw [9] (fun v wr => ∃ (k : Nat) (n1 d1 : Int), k ≤ ks.length ∧ v = .int .i64 k ∧ Blk wr w.heap.size 129 (sn n1 d1 a 0) ∧ Fr [w.heap.size] w3 wr ∧ partsV ((builds ks).drop k) (deep + 1) n1 d1 = R ∧ 0 ≤ n1 ∧ n1 ≤ 16384) (fun v _ => ks.length - (intOf v).toNat)
  case atStart => exact ⟨0, _, _, by omega, rfl, HC3.out, Fr.refl _ _, by simpa using HR.out, by omega, by omega⟩
  case round =>
    obtain ⟨k, n1, d1, hk, rfl, hblk, hfr, heq, hn0, hn1⟩ := hrel
    have hsz3 := HB3.out.size
    have hb3s := hb3.size
    have hwb1 := HB1.out.size
    have HC6' := Lib.hid (HC6.out.fr hfr (by simp; omega))
    have HC3' := Lib.hid hblk
    have HFR := Lib.hid hfr
    have HEQ := Lib.hid heq
    have HBW := Lib.hid (HB3.out.trans (hfr.below w.heap.size (by omega) (by simp)))
    clear HC3 HC6 hblk hfr heq
    have HC3 := HC3'
    have HC6 := HC6'
    clear HC3' HC6'
    dsimp only [sn] at HC3
    have s0 := HC3.out.cell 0
    have s1 := HC3.out.cell 1
    have s2 := HC3.out.cell 2
    have s3 := HC3.out.cell 3
    by_cases hlt : k < ks.length
    · obtain ⟨bA, off, rfl, hbA, hbAlt, hrange⟩ := HSL.out (by omega)
      obtain ⟨hrl, hget⟩ := TmsAt.get ks HROWS.out
      obtain ⟨q, hq, htr⟩ := hget k ks[k] (by simp [hlt])
      have hbne : bA ≠ w.heap.size := by rcases hbA with hbA | hbA <;> omega
      have hcells : wr.rangeAt bA (off + k * 11) q := fun j x hj => HFR.out.cell (hrange k q hq j x hj) (by simpa using hbne)
      have htw : TmAt wr B ks[k] q := TmAt.keep (fun b off hlt => World.cell?_of_block (a := ⟨b, off, none⟩) (HFR.out.block b (by omega) (by simp; omega))) _ htr
      have hpA : SeenAt ks[k] := HIH.out _ (List.getElem_mem _)
      obtain ⟨q0, q1, q2, q3, q4, q5, q6, q7, q8, q9, q10, rfl⟩ := list11 (H11.out q (List.mem_of_getElem? hq))
      obtain ⟨hc0, hc1, hc2, hc3, hc4, hc5, hc6, hc7, hc8, hc9, hc10⟩ := range11 hcells
      have hcall : ∀ W, (W = wr.drew ∧ W = wr.drew) → Calls Try.prog 54 #[.agg (sn n1 d1 a 0), .agg #[q0, q1, q2, q3, q4, q5, q6, q7, q8, q9, q10], .int .i64 (deep + 1)] W (Seen W a (partV (build ks[k]) (deep + 1) n1 d1)) := fun W hW => by
        rw [hW.1]; exact hpA _ wr.drew B n1 d1 a (deep + 1) (by have := HBW.out.size; simp; omega) htw.drew hn0 hn1 (by omega)
      have hkb : k < (builds ks).length := by simp [builds_map]; exact hlt
      have hbk : (builds ks)[k] = build ks[k] := by simp [builds_map]
      have hstep := HEQ.out
      rw [partsV_drop hkb, hbk] at hstep
      have hbd := partV_bound (build ks[k]) (deep + 1) n1 d1 hn0 hn1
      generalize partV (build ks[k]) (deep + 1) n1 d1 = r at hcall hstep hbd
      have HSTEP := Lib.hid hstep
      have HBD := Lib.hid hbd
      have HCL := Lib.hid hcall
      have hk0 : (0 : Int) ≤ (k : Int) := Int.natCast_nonneg _
      have hk1 : (k : Int) < (ks.length : Int) := by omega
      clear hstep hbd hrl hget hq htr htw hpA hcells hrange hbA hkb hbk hcall
      obtain ⟨rn, rd, ry⟩ := r
      by_cases hry : ry = 0
      · subst hry
        have HCALL : Hid (∀ W, (W = wr.drew ∧ W = wr.drew) → Calls Try.prog 54 #[.agg #[.int .i64 n1, .int .i64 d1, .int .i64 a, .int .i64 0], .agg #[q0, q1, q2, q3, q4, q5, q6, q7, q8, q9, q10], .int .i64 (deep + 1)] W (fun e w' => e = .returned (.agg #[.int .i64 rn, .int .i64 rd, .int .i64 a, .int .i64 0]) ∧ Below W.heap.size W w')) :=
          Lib.hid fun W hW => (HCL.out W hW).mono fun e w' ⟨he, hb⟩ => ⟨by simpa [seenOf, sn] using he, hb⟩
        clear HCL
        go_wp2_with fail
        go_region_with (first | (go_at_call 54; refine (HCALL.out _ ?_).mono ?_; exact ⟨rfl, rfl⟩; rintro e w4 ⟨rfl, hb4⟩; have d3 := HC3.out.drew.below hb4; have d6 := HC6.out.drew.below hb4; have s0 := d3.cell 0; have s1 := d3.cell 1; have s2 := d3.cell 2; have s3 := d3.cell 3; have f0 := d3.free 0; have f1 := d3.free 1; have f2 := d3.free 2; have f3 := d3.free 3; have u0 := d6.cell 0; have u1 := d6.cell 1; have u2 := d6.cell 2; have u3 := d6.cell 3; have g0 := d6.free 0; have g1 := d6.free 1; have g2 := d6.free 2; have g3 := d6.free 3))
        all_goals
          go_wp2
          go_roundw
          case rel =>
            refine ⟨k + 1, rn, rd, by omega, by go_num, by simpa [sn] using d3.set4 (.int .i64 rn) (.int .i64 rd) (.int .i64 a) (.int .i64 0), HFR.out.trans (fr_set4 (Fr.of_below (below_undrew hb4) _) (by simp) _ _ _ _), by have := HSTEP.out; simpa using this, HBD.out.1, HBD.out.2⟩
          case measure => simp [intOf]; omega
      · have hb0 : (ry != 0) = true := by simpa using hry
        have HCALL : Hid (∀ W, (W = wr.drew ∧ W = wr.drew) → Calls Try.prog 54 #[.agg #[.int .i64 n1, .int .i64 d1, .int .i64 a, .int .i64 0], .agg #[q0, q1, q2, q3, q4, q5, q6, q7, q8, q9, q10], .int .i64 (deep + 1)] W (fun e w' => e = .returned (.agg #[.int .i64 rn, .int .i64 rd, .int .i64 rn, .int .i64 ry]) ∧ Below W.heap.size W w')) :=
          Lib.hid fun W hW => (HCL.out W hW).mono fun e w' ⟨he, hb⟩ => ⟨by simpa [seenOf, sn, hry] using he, hb⟩
        clear HCL
        go_wp2_with fail
        go_region_with (first | (go_at_call 54; refine (HCALL.out _ ?_).mono ?_; exact ⟨rfl, rfl⟩; rintro e w4 ⟨rfl, hb4⟩; have d3 := HC3.out.drew.below hb4; have d6 := HC6.out.drew.below hb4; have s0 := d3.cell 0; have s1 := d3.cell 1; have s2 := d3.cell 2; have s3 := d3.cell 3; have f0 := d3.free 0; have f1 := d3.free 1; have f2 := d3.free 2; have f3 := d3.free 3; have u0 := d6.cell 0; have u1 := d6.cell 1; have u2 := d6.cell 2; have u3 := d6.cell 3; have g0 := d6.free 0; have g1 := d6.free 1; have g2 := d6.free 2; have g3 := d6.free 3))
        all_goals
          go_wp2
          have h1 := HSTEP.out
          rw [if_neg (by simpa using hry)] at h1
          refine bodyPost_ret (results_cell_row rfl _ _ (w.heap.size + 1 + 1) 129 (sn rn rd rn ry) (0, 0) _ rfl ((d6.setne4 (by omega) _ _ _ _).set4 _ _ _ _) Try.underlying129 rfl seen_size) rfl ?_
          refine ⟨?_, below_set4 (below_set4 (HBW.out.trans ((below_undrew hb4).mono (show w.heap.size ≤ wr.heap.size from HBW.out.size))) (by omega) _ _ _ _) (by omega) _ _ _ _⟩
          rw [← h1]; simp [seenOf, sn, hry]
    · obtain rfl : k = ks.length := by omega
      have u0 := HC6.out.cell 0
      have u1 := HC6.out.cell 1
      have u2 := HC6.out.cell 2
      have u3 := HC6.out.cell 3
      have g0 := HC6.out.free 0
      have g1 := HC6.out.free 1
      have g2 := HC6.out.free 2
      have g3 := HC6.out.free 3
      go_wp2
      have h1 := HEQ.out
      rw [List.drop_eq_nil_of_le (by simp [builds_map]), partsV] at h1
      refine bodyPost_ret (results_cell_row rfl _ _ (w.heap.size + 1 + 1) 129 (sn n1 d1 a 0) (0, 0) _ rfl (HC6.out.set4 _ _ _ _) Try.underlying129 rfl seen_size) rfl ?_
      refine ⟨?_, below_set4 HBW.out (by omega) _ _ _ _⟩
      rw [← h1]; simp [seenOf, sn]

set_option maxRecDepth 100000 in
set_option maxHeartbeats 4000000 in
theorem rpart_flat (t : Tm) (r0 r1 r2 r3 r4 r5 r6 r7 r8 r9 r10 : Value) (w : World) (B : Nat) (n d a deep : Int) (hB : B ≤ w.heap.size) (h : TmAt w B t [r0, r1, r2, r3, r4, r5, r6, r7, r8, r9, r10]) (hy : ownE (build t) n deep = 0) (hc : deep ≤ d) (h0 : 0 ≤ n) (hd : 0 ≤ deep)
    (ih : ∀ u ∈ kidsT t, SeenAt u) (hkl : (kidsT t).length ≤ 1048576) (R : Int × Int × Int) (hR : partsV (builds (kidsT t)) (deep + 1) (n + 1) d = R) :
    Calls Try.prog 54 #[.agg (sn n d a 0), .agg #[r0, r1, r2, r3, r4, r5, r6, r7, r8, r9, r10], .int .i64 deep] w (Seen w a R) := by
  have hbl : Below w.heap.size w (((w.alloc (.cells (sn n d a 0) 129)).alloc (.cells #[r0, r1, r2, r3, r4, r5, r6, r7, r8, r9, r10] 31)).alloc (.cells (sn 0 0 0 0) 129)) := (((Below.refl _ _).alloc (Nat.le_refl _) _).alloc (by simp) _).alloc (by simp; omega) _
  have hO := rown_any t [r0, r1, r2, r3, r4, r5, r6, r7, r8, r9, r10] (((w.alloc (.cells (sn n d a 0) 129)).alloc (.cells #[r0, r1, r2, r3, r4, r5, r6, r7, r8, r9, r10] 31)).alloc (.cells (sn 0 0 0 0) 129)) B n deep (Nat.le_trans hB hbl.size) (h.below hbl hB)
  rw [hy] at hO
  have p3 : Blk (((w.alloc (.cells (sn n d a 0) 129)).alloc (.cells #[r0, r1, r2, r3, r4, r5, r6, r7, r8, r9, r10] 31)).alloc (.cells (sn 0 0 0 0) 129)) w.heap.size 129 (sn n d a 0) := ((Blk.new w _ _).alloc _).alloc _
  have p4 : Blk (((w.alloc (.cells (sn n d a 0) 129)).alloc (.cells #[r0, r1, r2, r3, r4, r5, r6, r7, r8, r9, r10] 31)).alloc (.cells (sn 0 0 0 0) 129)) (w.heap.size + 1) 31 #[r0, r1, r2, r3, r4, r5, r6, r7, r8, r9, r10] := by have := (Blk.new (w.alloc (.cells (sn n d a 0) 129)) 31 #[r0, r1, r2, r3, r4, r5, r6, r7, r8, r9, r10]).alloc (.cells (sn 0 0 0 0) 129); simpa using this
  have p6 : Blk (((w.alloc (.cells (sn n d a 0) 129)).alloc (.cells #[r0, r1, r2, r3, r4, r5, r6, r7, r8, r9, r10] 31)).alloc (.cells (sn 0 0 0 0) 129)) (w.heap.size + 1 + 1) 129 (sn 0 0 0 0) := by have := Blk.new ((w.alloc (.cells (sn n d a 0) 129)).alloc (.cells #[r0, r1, r2, r3, r4, r5, r6, r7, r8, r9, r10] 31)) 129 (sn 0 0 0 0); simpa using this
  have HBL := Lib.hid hbl
  have HO := Lib.hid hO
  have P3 := Lib.hid p3
  have P4 := Lib.hid p4
  have P6 := Lib.hid p6
  have hlt := ownE_lt hy
  have hwn : IntKind.i64.wrap (n + 1) = n + 1 := IntWalk.i64_in _ ⟨by omega, by omega⟩
  have hwd : IntKind.i64.wrap (deep + 1) = deep + 1 := IntWalk.i64_in _ ⟨by omega, by omega⟩
  have HPT : Hid (∀ w', Below w.heap.size w w' → Calls Try.prog 73 #[.agg #[r0, r1, r2, r3, r4, r5, r6, r7, r8, r9, r10]] w' (fun e w'' => TmsGive B w'.heap.size (kidsT t) e w'' ∧ Below w'.heap.size w' w'')) :=
    Lib.hid fun w' hb => rparts_any t [r0, r1, r2, r3, r4, r5, r6, r7, r8, r9, r10] w' B (Nat.le_trans hB hb.size) (h.below hb hB)
  have HR := Lib.hid hR
  have HIH := Lib.hid ih
  dsimp only [sn] at HO HBL P3 P4 P6 ⊢
  generalize kidsT t = ks at HPT HR HIH hkl
  clear hO hbl h hy p3 p4 p6 hR ih
  go_enter Try.func54, Try.ntmps54
  go_wp2_with (first | (go_at_call 72; refine HO.out.mono ?_; rintro e w1 ⟨rfl, hb⟩; have b3 := P3.out.below hb; have b4 := P4.out.below hb; have b6 := P6.out.below hb; have s0 := b3.cell 0; have s1 := b3.cell 1; have s2 := b3.cell 2; have s3 := b3.cell 3; have f0 := b3.free 0; have f1 := b3.free 1; have f2 := b3.free 2; have f3 := b3.free 3; have u0 := b6.cell 0; have u1 := b6.cell 1; have u2 := b6.cell 2; have u3 := b6.cell 3; have g0 := b6.free 0; have g1 := b6.free 1; have g2 := b6.free 2; have g3 := b6.free 3; have q0 := b4.cell 0; have q1 := b4.cell 1; have q2 := b4.cell 2; have q3 := b4.cell 3; have q4 := b4.cell 4; have q5 := b4.cell 5; have q6 := b4.cell 6; have q7 := b4.cell 7; have q8 := b4.cell 8; have q9 := b4.cell 9; have q10 := b4.cell 10; have hw1s : w.heap.size + 3 ≤ w1.heap.size := (by have := hb.size; simp at this; omega); have HB1 := Lib.hid (HBL.out.trans (hb.mono (by simp; omega)))) | (go_at_call 73; refine (HPT.out _ (below_set (p := ⟨w.heap.size, 0, none⟩) HB1.out (by simp) (.int .i64 (n + 1)))).mono ?_; rintro e w3 ⟨⟨A, cA, rows, rfl, h11, hrows, hsl⟩, hb3⟩; simp only [size_set] at hsl; have c3 := ((by simpa using b3.set 0 (.int .i64 (n + 1)) : Blk (w1.setCell ⟨w.heap.size, 0, none⟩ (.int .i64 (n + 1))) w.heap.size 129 #[.int .i64 (n + 1), .int .i64 d, .int .i64 a, .int .i64 0])).below hb3; have c6 := ((b6.setne (p := ⟨w.heap.size, 0, none⟩) (by simp; omega) (.int .i64 (n + 1)))).below hb3; have HB3 := Lib.hid ((below_set (p := ⟨w.heap.size, 0, none⟩) HB1.out (by simp) (.int .i64 (n + 1))).trans (hb3.mono (by have := HB1.out.size; simp; omega)))))
  clear s0 s1 s2 s3 f0 f1 f2 f3 u0 u1 u2 u3 g0 g1 g2 g3 q0 q1 q2 q3 q4 q5 q6 q7 q8 q9 q10 b3 b4 b6
  have HC3 := Lib.hid c3
  have HC6 := Lib.hid c6
  have HROWS := Lib.hid hrows
  have H11 := Lib.hid h11
  have HSL := Lib.hid hsl
  clear c3 c6 hrows h11 hsl
  go_loopw [9] (fun v wr => ∃ (k : Nat) (n1 d1 : Int), k ≤ ks.length ∧ v = .int .i64 k ∧ Blk wr w.heap.size 129 (sn n1 d1 a 0) ∧ Fr [w.heap.size] w3 wr ∧ partsV ((builds ks).drop k) (deep + 1) n1 d1 = R ∧ 0 ≤ n1 ∧ n1 ≤ 16384) (fun v _ => ks.length - (intOf v).toNat)
  case atStart => exact ⟨0, _, _, by omega, rfl, HC3.out, Fr.refl _ _, by simpa using HR.out, by omega, by omega⟩
  case round =>
    obtain ⟨k, n1, d1, hk, rfl, hblk, hfr, heq, hn0, hn1⟩ := hrel
    have hsz3 := HB3.out.size
    have hb3s := hb3.size
    have hwb1 := HB1.out.size
    have HC6' := Lib.hid (HC6.out.fr hfr (by simp; omega))
    have HC3' := Lib.hid hblk
    have HFR := Lib.hid hfr
    have HEQ := Lib.hid heq
    have HBW := Lib.hid (HB3.out.trans (hfr.below w.heap.size (by omega) (by simp)))
    clear HC3 HC6 hblk hfr heq
    have HC3 := HC3'
    have HC6 := HC6'
    clear HC3' HC6'
    dsimp only [sn] at HC3
    have s0 := HC3.out.cell 0
    have s1 := HC3.out.cell 1
    have s2 := HC3.out.cell 2
    have s3 := HC3.out.cell 3
    by_cases hlt : k < ks.length
    · obtain ⟨bA, off, rfl, hbA, hbAlt, hrange⟩ := HSL.out (by omega)
      obtain ⟨hrl, hget⟩ := TmsAt.get ks HROWS.out
      obtain ⟨q, hq, htr⟩ := hget k ks[k] (by simp [hlt])
      have hbne : bA ≠ w.heap.size := by rcases hbA with hbA | hbA <;> omega
      have hcells : wr.rangeAt bA (off + k * 11) q := fun j x hj => HFR.out.cell (hrange k q hq j x hj) (by simpa using hbne)
      have htw : TmAt wr B ks[k] q := TmAt.keep (fun b off hlt => World.cell?_of_block (a := ⟨b, off, none⟩) (HFR.out.block b (by omega) (by simp; omega))) _ htr
      have hpA : SeenAt ks[k] := HIH.out _ (List.getElem_mem _)
      obtain ⟨q0, q1, q2, q3, q4, q5, q6, q7, q8, q9, q10, rfl⟩ := list11 (H11.out q (List.mem_of_getElem? hq))
      obtain ⟨hc0, hc1, hc2, hc3, hc4, hc5, hc6, hc7, hc8, hc9, hc10⟩ := range11 hcells
      have hcall : ∀ W, (W = wr.drew ∧ W = wr.drew) → Calls Try.prog 54 #[.agg (sn n1 d1 a 0), .agg #[q0, q1, q2, q3, q4, q5, q6, q7, q8, q9, q10], .int .i64 (deep + 1)] W (Seen W a (partV (build ks[k]) (deep + 1) n1 d1)) := fun W hW => by
        rw [hW.1]; exact hpA _ wr.drew B n1 d1 a (deep + 1) (by have := HBW.out.size; simp; omega) htw.drew hn0 hn1 (by omega)
      have hkb : k < (builds ks).length := by simp [builds_map]; exact hlt
      have hbk : (builds ks)[k] = build ks[k] := by simp [builds_map]
      have hstep := HEQ.out
      rw [partsV_drop hkb, hbk] at hstep
      have hbd := partV_bound (build ks[k]) (deep + 1) n1 d1 hn0 hn1
      generalize partV (build ks[k]) (deep + 1) n1 d1 = r at hcall hstep hbd
      have HSTEP := Lib.hid hstep
      have HBD := Lib.hid hbd
      have HCL := Lib.hid hcall
      have hk0 : (0 : Int) ≤ (k : Int) := Int.natCast_nonneg _
      have hk1 : (k : Int) < (ks.length : Int) := by omega
      clear hstep hbd hrl hget hq htr htw hpA hcells hrange hbA hkb hbk hcall
      obtain ⟨rn, rd, ry⟩ := r
      by_cases hry : ry = 0
      · subst hry
        have HCALL : Hid (∀ W, (W = wr.drew ∧ W = wr.drew) → Calls Try.prog 54 #[.agg #[.int .i64 n1, .int .i64 d1, .int .i64 a, .int .i64 0], .agg #[q0, q1, q2, q3, q4, q5, q6, q7, q8, q9, q10], .int .i64 (deep + 1)] W (fun e w' => e = .returned (.agg #[.int .i64 rn, .int .i64 rd, .int .i64 a, .int .i64 0]) ∧ Below W.heap.size W w')) :=
          Lib.hid fun W hW => (HCL.out W hW).mono fun e w' ⟨he, hb⟩ => ⟨by simpa [seenOf, sn] using he, hb⟩
        clear HCL
        go_wp2_with fail
        go_region_with (first | (go_at_call 54; refine (HCALL.out _ ?_).mono ?_; exact ⟨rfl, rfl⟩; rintro e w4 ⟨rfl, hb4⟩; have d3 := HC3.out.drew.below hb4; have d6 := HC6.out.drew.below hb4; have s0 := d3.cell 0; have s1 := d3.cell 1; have s2 := d3.cell 2; have s3 := d3.cell 3; have f0 := d3.free 0; have f1 := d3.free 1; have f2 := d3.free 2; have f3 := d3.free 3; have u0 := d6.cell 0; have u1 := d6.cell 1; have u2 := d6.cell 2; have u3 := d6.cell 3; have g0 := d6.free 0; have g1 := d6.free 1; have g2 := d6.free 2; have g3 := d6.free 3))
        all_goals
          go_wp2
          go_roundw
          case rel =>
            refine ⟨k + 1, rn, rd, by omega, by go_num, by simpa [sn] using d3.set4 (.int .i64 rn) (.int .i64 rd) (.int .i64 a) (.int .i64 0), HFR.out.trans (fr_set4 (Fr.of_below (below_undrew hb4) _) (by simp) _ _ _ _), by have := HSTEP.out; simpa using this, HBD.out.1, HBD.out.2⟩
          case measure => simp [intOf]; omega
      · have hb0 : (ry != 0) = true := by simpa using hry
        have HCALL : Hid (∀ W, (W = wr.drew ∧ W = wr.drew) → Calls Try.prog 54 #[.agg #[.int .i64 n1, .int .i64 d1, .int .i64 a, .int .i64 0], .agg #[q0, q1, q2, q3, q4, q5, q6, q7, q8, q9, q10], .int .i64 (deep + 1)] W (fun e w' => e = .returned (.agg #[.int .i64 rn, .int .i64 rd, .int .i64 rn, .int .i64 ry]) ∧ Below W.heap.size W w')) :=
          Lib.hid fun W hW => (HCL.out W hW).mono fun e w' ⟨he, hb⟩ => ⟨by simpa [seenOf, sn, hry] using he, hb⟩
        clear HCL
        go_wp2_with fail
        go_region_with (first | (go_at_call 54; refine (HCALL.out _ ?_).mono ?_; exact ⟨rfl, rfl⟩; rintro e w4 ⟨rfl, hb4⟩; have d3 := HC3.out.drew.below hb4; have d6 := HC6.out.drew.below hb4; have s0 := d3.cell 0; have s1 := d3.cell 1; have s2 := d3.cell 2; have s3 := d3.cell 3; have f0 := d3.free 0; have f1 := d3.free 1; have f2 := d3.free 2; have f3 := d3.free 3; have u0 := d6.cell 0; have u1 := d6.cell 1; have u2 := d6.cell 2; have u3 := d6.cell 3; have g0 := d6.free 0; have g1 := d6.free 1; have g2 := d6.free 2; have g3 := d6.free 3))
        all_goals
          go_wp2
          have h1 := HSTEP.out
          rw [if_neg (by simpa using hry)] at h1
          refine bodyPost_ret (results_cell_row rfl _ _ (w.heap.size + 1 + 1) 129 (sn rn rd rn ry) (0, 0) _ rfl ((d6.setne4 (by omega) _ _ _ _).set4 _ _ _ _) Try.underlying129 rfl seen_size) rfl ?_
          refine ⟨?_, below_set4 (below_set4 (HBW.out.trans ((below_undrew hb4).mono (show w.heap.size ≤ wr.heap.size from HBW.out.size))) (by omega) _ _ _ _) (by omega) _ _ _ _⟩
          rw [← h1]; simp [seenOf, sn, hry]
    · obtain rfl : k = ks.length := by omega
      have u0 := HC6.out.cell 0
      have u1 := HC6.out.cell 1
      have u2 := HC6.out.cell 2
      have u3 := HC6.out.cell 3
      have g0 := HC6.out.free 0
      have g1 := HC6.out.free 1
      have g2 := HC6.out.free 2
      have g3 := HC6.out.free 3
      go_wp2
      have h1 := HEQ.out
      rw [List.drop_eq_nil_of_le (by simp [builds_map]), partsV] at h1
      refine bodyPost_ret (results_cell_row rfl _ _ (w.heap.size + 1 + 1) 129 (sn n1 d1 a 0) (0, 0) _ rfl (HC6.out.set4 _ _ _ _) Try.underlying129 rfl seen_size) rfl ?_
      refine ⟨?_, below_set4 HBW.out (by omega) _ _ _ _⟩
      rw [← h1]; simp [seenOf, sn]
end Go.Proofs.Ythanmakakcmkeaa
