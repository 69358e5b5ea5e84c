/- Compare over lists, dicts, records; Compare whole. -/
import Derived.Test.YthanmakakcmkeaaCompare2
namespace Go.Proofs.Ythanmakakcmkeaa
open Go.RowKit

theorem flat_at {w : World} {B b off n : Nat} {rows : List (List Value)} (hr : Rd w B 11 (some ⟨b, off, none⟩) n rows.flatten) (h11 : ∀ r ∈ rows, r.length = 11) (hl : rows.length = n) (k : Nat) (r : List Value) (hk : rows[k]? = some r) : w.rangeAt b (off + k * 11) r := flat_range hr h11 hl k r hk

set_option maxRecDepth 100000 in
set_option maxHeartbeats 8000000 in
theorem cmp_8 (ts us : List Tm) (rows rous : List (List Value)) (b : Bool) (i : Int) (f : Nat) (s : ByteArray) (A5 : Option Addr) (n5 c5 : Nat) (r : Int) (A7 : Option Addr) (c7 : Nat) (A8 : Option Addr) (n8 : Nat) (c8 : Nat) (c : ByteArray) (v : Int)
    (bY : Bool) (iY : Int) (fY : Nat) (sY : ByteArray) (A5Y : Option Addr) (n5Y c5Y : Nat) (rY : Int) (A7Y : Option Addr) (c7Y : Nat) (A8Y : Option Addr) (n8Y : Nat) (c8Y : Nat) (cY : ByteArray) (vY : Int) (w : World) (B : Nat) (hB : B ≤ w.heap.size)
    (h1 : Rd w B 11 A7 ts.length rows.flatten) (h2 : Rd w B 11 A7Y us.length rous.flatten) (t1 : TmsAt w B ts rows) (t2 : TmsAt w B us rous)
    (hl1 : ts.length ≤ 1048576) (hl2 : us.length ≤ 1048576) (ga : goodsV (builds ts)) (gb : goodsV (builds us)) (ih : ∀ t ∈ ts, CmpAt t) (res : Int) (hr : cmpsV (builds ts) (builds us) = res) :
    Calls Try.prog 37 #[.agg #[.int .i64 8, .bool b, .int .i64 i, .float .f64 f, .string s, .slice A5 n5 c5, .int .u64 r, .slice A7 ts.length c7, .slice A8 n8 c8, .string c, .int .i64 v], .agg #[.int .i64 8, .bool bY, .int .i64 iY, .float .f64 fY, .string sY, .slice A5Y n5Y c5Y, .int .u64 rY, .slice A7Y us.length c7Y, .slice A8Y n8Y c8Y, .string cY, .int .i64 vY]] w (Gives res w) := by
  have H1 := Lib.hid h1
  have H2 := Lib.hid h2
  have T1 := Lib.hid t1
  have T2 := Lib.hid t2
  have HR := Lib.hid hr
  have GA := Lib.hid (goodsV_get _ ga)
  have GB := Lib.hid (goodsV_get _ gb)
  have HIH := Lib.hid ih
  have HN := Lib.hid rnumbers_any
  have hw1 : IntKind.u64.wrap (ts.length : Int) = ts.length := by rw [IntKind.wrap_u64]; omega
  have hw2 : IntKind.u64.wrap (us.length : Int) = us.length := by rw [IntKind.wrap_u64]; omega
  clear h1 h2 hr t1 t2 ga gb ih
  have hbl0 : Below w.heap.size w ((w.alloc (.cells #[.int .i64 8, .bool b, .int .i64 i, .float .f64 f, .string s, .slice A5 n5 c5, .int .u64 r, .slice A7 ts.length c7, .slice A8 n8 c8, .string c, .int .i64 v] 31)).alloc (.cells #[.int .i64 8, .bool bY, .int .i64 iY, .float .f64 fY, .string sY, .slice A5Y n5Y c5Y, .int .u64 rY, .slice A7Y us.length c7Y, .slice A8Y n8Y c8Y, .string cY, .int .i64 vY] 31)) := ((Below.refl _ _).alloc (Nat.le_refl _) _).alloc (by simp) _
  have hz1 : ((w.alloc (.cells #[.int .i64 8, .bool b, .int .i64 i, .float .f64 f, .string s, .slice A5 n5 c5, .int .u64 r, .slice A7 ts.length c7, .slice A8 n8 c8, .string c, .int .i64 v] 31)).alloc (.cells #[.int .i64 8, .bool bY, .int .i64 iY, .float .f64 fY, .string sY, .slice A5Y n5Y c5Y, .int .u64 rY, .slice A7Y us.length c7Y, .slice A8Y n8Y c8Y, .string cY, .int .i64 vY] 31)).cell? ⟨w.heap.size, 7, none⟩ = some (.slice A7 ts.length c7) := cell_alloc _ ((Blk.new w 31 #[.int .i64 8, .bool b, .int .i64 i, .float .f64 f, .string s, .slice A5 n5 c5, .int .u64 r, .slice A7 ts.length c7, .slice A8 n8 c8, .string c, .int .i64 v]).cell 7)
  have hz2 : ((w.alloc (.cells #[.int .i64 8, .bool b, .int .i64 i, .float .f64 f, .string s, .slice A5 n5 c5, .int .u64 r, .slice A7 ts.length c7, .slice A8 n8 c8, .string c, .int .i64 v] 31)).alloc (.cells #[.int .i64 8, .bool bY, .int .i64 iY, .float .f64 fY, .string sY, .slice A5Y n5Y c5Y, .int .u64 rY, .slice A7Y us.length c7Y, .slice A8Y n8Y c8Y, .string cY, .int .i64 vY] 31)).cell? ⟨w.heap.size + 1, 7, none⟩ = some (.slice A7Y us.length c7Y) := by simp
  have hz3 : ((w.alloc (.cells #[.int .i64 8, .bool b, .int .i64 i, .float .f64 f, .string s, .slice A5 n5 c5, .int .u64 r, .slice A7 ts.length c7, .slice A8 n8 c8, .string c, .int .i64 v] 31)).alloc (.cells #[.int .i64 8, .bool bY, .int .i64 iY, .float .f64 fY, .string sY, .slice A5Y n5Y c5Y, .int .u64 rY, .slice A7Y us.length c7Y, .slice A8Y n8Y c8Y, .string cY, .int .i64 vY] 31)).heap.size = w.heap.size + 2 := by simp
  have HBL0 := Lib.hid hbl0
  have HZ1 := Lib.hid hz1
  have HZ2 := Lib.hid hz2
  have HZ3 := Lib.hid hz3
  clear hbl0 hz1 hz2 hz3
  go_enter Try.func37, Try.ntmps37
  go_wp2
  generalize hW0 : ((w.alloc (.cells #[.int .i64 8, .bool b, .int .i64 i, .float .f64 f, .string s, .slice A5 n5 c5, .int .u64 r, .slice A7 ts.length c7, .slice A8 n8 c8, .string c, .int .i64 v] 31)).alloc (.cells #[.int .i64 8, .bool bY, .int .i64 iY, .float .f64 fY, .string sY, .slice A5Y n5Y c5Y, .int .u64 rY, .slice A7Y us.length c7Y, .slice A8Y n8Y c8Y, .string cY, .int .i64 vY] 31)) = W0 at HBL0 HZ1 HZ2 HZ3 ⊢
  clear hW0
  go_loopw [5, 6] (fun v5 v6 wr => ∃ k : Nat, k ≤ ts.length ∧ k ≤ us.length ∧ v5 = .int .i64 k ∧ cmpsV ((builds ts).drop k) ((builds us).drop k) = res ∧ Below (w.heap.size + 2) W0 wr) (fun v _ _ => ts.length - (intOf v).toNat)
  case atStart => exact ⟨0, by omega, by omega, rfl, by simpa using HR.out, Below.refl _ _⟩
  case round =>
    obtain ⟨k, hk, hkb, rfl, heq, hbl⟩ := hrel
    have HEQ := Lib.hid heq
    have HBL := Lib.hid (HBL0.out.trans (hbl.mono (show w.heap.size ≤ w.heap.size + 2 by omega)))
    have hs1 : wr.cell? ⟨w.heap.size, 7, none⟩ = some (.slice A7 ts.length c7) := (hbl.cell (p := ⟨w.heap.size, 7, none⟩) (by simp)).trans HZ1.out
    have hs2 : wr.cell? ⟨w.heap.size + 1, 7, none⟩ = some (.slice A7Y us.length c7Y) := (hbl.cell (p := ⟨w.heap.size + 1, 7, none⟩) (by simp)).trans HZ2.out
    have hwrs : w.heap.size + 2 ≤ wr.heap.size := by have := hbl.size; have := HZ3.out; omega
    have HB2 := Lib.hid hbl
    clear heq hbl
    have hk0 : (0 : Int) ≤ (k : Int) := Int.natCast_nonneg _
    by_cases hlt : k < ts.length
    · have hk1 : (k : Int) < (ts.length : Int) := by omega
      have hd1 : decide ((k : Int) < (ts.length : Int)) = true := by simp; omega
      by_cases hlb : k < us.length
      · have hk2 : (k : Int) < (us.length : Int) := by omega
        have hd2 : decide ((k : Int) < (us.length : Int)) = true := by simp; omega
        obtain ⟨bA, off, rfl, hbA, _⟩ := H1.out.2 (by omega)
        obtain ⟨bC, ofc, rfl, hbC, _⟩ := H2.out.2 (by omega)
        obtain ⟨hrl1, hget1⟩ := TmsAt.get ts T1.out
        obtain ⟨hrl2, hget2⟩ := TmsAt.get us T2.out
        obtain ⟨x, hx, htx⟩ := hget1 k ts[k] (by simp [hlt])
        obtain ⟨y, hy, hty⟩ := hget2 k us[k] (by simp [hlb])
        have h11a := TmsAt.len ts T1.out
        have h11b := TmsAt.len us T2.out
        have hcells1 := flat_at (H1.out.below HBL.out hB) h11a hrl1 k x hx
        have hcells2 := flat_at (H2.out.below HBL.out hB) h11b hrl2 k y hy
        obtain ⟨q0, q1, q2, q3, q4, q5, q6, q7, q8, q9, q10, rfl⟩ := list11 (h11a x (List.mem_of_getElem? hx))
        obtain ⟨p0, p1, p2, p3, p4, p5, p6, p7, p8, p9, p10, rfl⟩ := list11 (h11b y (List.mem_of_getElem? hy))
        obtain ⟨hg1, hgt1⟩ := builds_get hlt
        obtain ⟨hg2, hgt2⟩ := builds_get hlb
        have hst := HEQ.out
        rw [cmpsV_drop hg1 hg2, hgt1, hgt2] at hst
        have ggx := GA.out _ (List.getElem_mem hg1)
        have ggy := GB.out _ (List.getElem_mem hg2)
        rw [hgt1] at ggx
        rw [hgt2] at ggy
        have hcc : CmpAt ts[k] := HIH.out _ (List.getElem_mem hlt)
        have hcall := hcc us[k] _ _ wr.drew B (Nat.le_trans hB (by have := HBL.out.size; simpa using this)) (htx.below HBL.out.drew hB) (hty.below HBL.out.drew hB) ggx ggy
        obtain ⟨hc0, hc1, hc2, hc3, hc4, hc5, hc6, hc7, hc8, hc9, hc10⟩ := range11 hcells1
        obtain ⟨he0, he1, he2, he3, he4, he5, he6, he7, he8, he9, he10⟩ := range11 hcells2
        generalize cmpV (build ts[k]) (build us[k]) = z at hcall hst
        have HCALL : Hid (∀ V, V = wr.drew → Calls Try.prog 37 #[.agg #[q0, q1, q2, q3, q4, q5, q6, q7, q8, q9, q10], .agg #[p0, p1, p2, p3, p4, p5, p6, p7, p8, p9, p10]] V (Gives z V)) := Lib.hid fun V hV => by rw [hV]; exact hcall
        have HST := Lib.hid hst
        clear hcall hst hcells1 hcells2 hget1 hget2 hx hy htx hty ggx ggy hcc hrl1 hrl2 h11a h11b
        by_cases hz : z = 0
        · subst hz
          go_wp2
          refine wp_region_held_drew (S := (fun w' => w'.cell? ⟨w.heap.size, 7, none⟩ = some (.slice (some ⟨bA, off, none⟩) ts.length c7) ∧ w'.cell? ⟨w.heap.size + 1, 7, none⟩ = some (.slice (some ⟨bC, ofc, none⟩) us.length c7Y) ∧ w'.cell? ⟨bA, off + k * 11, none⟩ = some q0 ∧ w'.cell? ⟨bA, off + k * 11 + 1, none⟩ = some q1 ∧ w'.cell? ⟨bA, off + k * 11 + 2, none⟩ = some q2 ∧ w'.cell? ⟨bA, off + k * 11 + 3, none⟩ = some q3 ∧ w'.cell? ⟨bA, off + k * 11 + 4, none⟩ = some q4 ∧ w'.cell? ⟨bA, off + k * 11 + 5, none⟩ = some q5 ∧ w'.cell? ⟨bA, off + k * 11 + 6, none⟩ = some q6 ∧ w'.cell? ⟨bA, off + k * 11 + 7, none⟩ = some q7 ∧ w'.cell? ⟨bA, off + k * 11 + 8, none⟩ = some q8 ∧ w'.cell? ⟨bA, off + k * 11 + 9, none⟩ = some q9 ∧ w'.cell? ⟨bA, off + k * 11 + 10, none⟩ = some q10 ∧ w'.cell? ⟨bC, ofc + k * 11, none⟩ = some p0 ∧ w'.cell? ⟨bC, ofc + k * 11 + 1, none⟩ = some p1 ∧ w'.cell? ⟨bC, ofc + k * 11 + 2, none⟩ = some p2 ∧ w'.cell? ⟨bC, ofc + k * 11 + 3, none⟩ = some p3 ∧ w'.cell? ⟨bC, ofc + k * 11 + 4, none⟩ = some p4 ∧ w'.cell? ⟨bC, ofc + k * 11 + 5, none⟩ = some p5 ∧ w'.cell? ⟨bC, ofc + k * 11 + 6, none⟩ = some p6 ∧ w'.cell? ⟨bC, ofc + k * 11 + 7, none⟩ = some p7 ∧ w'.cell? ⟨bC, ofc + k * 11 + 8, none⟩ = some p8 ∧ w'.cell? ⟨bC, ofc + k * 11 + 9, none⟩ = some p9 ∧ w'.cell? ⟨bC, ofc + k * 11 + 10, none⟩ = some p10)) (by kernel_rfl) ⟨hs1, hs2, hc0, hc1, hc2, hc3, hc4, hc5, hc6, hc7, hc8, hc9, hc10, he0, he1, he2, he3, he4, he5, he6, he7, he8, he9, he10⟩ (fun hHeld => ?_)
          refine held_take (i := 0) (v := ?_) rfl (by kernel_rfl) (by kernel_rfl) (by kernel_rfl) (fun _ _ _ h => h) (by kernel_rfl) ?_ hHeld ?_; rotate_left; focus (((intro w hSw; (try dsimp only at hSw); go_simp) <;> with_reducible rfl); done)
          (try simp only [Act.put, List.setIfInBounds_toArray, List.set_cons_zero, List.set_cons_succ])
          refine held_take (i := 1) (v := ?_) rfl (by kernel_rfl) (by kernel_rfl) (by kernel_rfl) (fun _ _ _ h => h) (by kernel_rfl) ?_ hHeld ?_; rotate_left; focus (((intro w hSw; (try dsimp only at hSw); go_simp) <;> with_reducible rfl); done)
          (try simp only [Act.put, List.setIfInBounds_toArray, List.set_cons_zero, List.set_cons_succ])
          refine held_take (i := 2) (v := ?_) rfl (by kernel_rfl) (by kernel_rfl) (by kernel_rfl) (fun _ _ _ h => h) (by kernel_rfl) ?_ hHeld ?_; rotate_left; focus (((intro w hSw; (try dsimp only at hSw); go_simp) <;> with_reducible rfl); done)
          (try simp only [Act.put, List.setIfInBounds_toArray, List.set_cons_zero, List.set_cons_succ])
          refine held_take (i := 3) (v := ?_) rfl (by kernel_rfl) (by kernel_rfl) (by kernel_rfl) (fun _ _ _ h => h) (by kernel_rfl) ?_ hHeld ?_; rotate_left; focus (((intro w hSw; (try dsimp only at hSw); go_simp) <;> with_reducible rfl); done)
          (try simp only [Act.put, List.setIfInBounds_toArray, List.set_cons_zero, List.set_cons_succ])
          refine held_take (i := 4) (v := ?_) rfl (by kernel_rfl) (by kernel_rfl) (by kernel_rfl) (fun _ _ _ h => h) (by kernel_rfl) ?_ hHeld ?_; rotate_left; focus (((intro w hSw; (try dsimp only at hSw); go_simp) <;> with_reducible rfl); done)
          (try simp only [Act.put, List.setIfInBounds_toArray, List.set_cons_zero, List.set_cons_succ])
          refine held_take (i := 5) (v := ?_) rfl (by kernel_rfl) (by kernel_rfl) (by kernel_rfl) (fun _ _ _ h => h) (by kernel_rfl) ?_ hHeld ?_; rotate_left; focus (((intro w hSw; (try dsimp only at hSw); go_simp) <;> with_reducible rfl); done)
          (try simp only [Act.put, List.setIfInBounds_toArray, List.set_cons_zero, List.set_cons_succ])
          refine held_take (i := 6) (v := ?_) rfl (by kernel_rfl) (by kernel_rfl) (by kernel_rfl) (fun _ _ _ h => h) (by kernel_rfl) ?_ hHeld ?_; rotate_left; focus (((intro w hSw; (try dsimp only at hSw); go_simp) <;> with_reducible rfl); done)
          (try simp only [Act.put, List.setIfInBounds_toArray, List.set_cons_zero, List.set_cons_succ])
          refine held_take (i := 7) (v := ?_) rfl (by kernel_rfl) (by kernel_rfl) (by kernel_rfl) (fun _ _ _ h => h) (by kernel_rfl) ?_ hHeld ?_; rotate_left; focus (((intro w hSw; (try dsimp only at hSw); go_simp) <;> with_reducible rfl); done)
          (try simp only [Act.put, List.setIfInBounds_toArray, List.set_cons_zero, List.set_cons_succ])
          refine held_take (i := 8) (v := ?_) rfl (by kernel_rfl) (by kernel_rfl) (by kernel_rfl) (fun _ _ _ h => h) (by kernel_rfl) ?_ hHeld ?_; rotate_left; focus (((intro w hSw; (try dsimp only at hSw); go_simp) <;> with_reducible rfl); done)
          (try simp only [Act.put, List.setIfInBounds_toArray, List.set_cons_zero, List.set_cons_succ])
          refine held_take (i := 9) (v := ?_) rfl (by kernel_rfl) (by kernel_rfl) (by kernel_rfl) (fun _ _ _ h => h) (by kernel_rfl) ?_ hHeld ?_; rotate_left; focus (((intro w hSw; (try dsimp only at hSw); go_simp) <;> with_reducible rfl); done)
          (try simp only [Act.put, List.setIfInBounds_toArray, List.set_cons_zero, List.set_cons_succ])
          refine held_call (i := 10) rfl (by kernel_rfl) (by kernel_rfl) (fun K hK => ?_)
          go_simp
          (refine (HCALL.out _ rfl).mono ?_; rintro e w1 ⟨rfl, hb1⟩)
          refine hK.out _ _ ?_ (fun hHeld2 => ?_)
          · exact ⟨cell_below hb1 hHeld.1, cell_below hb1 hHeld.2.1, cell_below hb1 hHeld.2.2.1, cell_below hb1 hHeld.2.2.2.1, cell_below hb1 hHeld.2.2.2.2.1, cell_below hb1 hHeld.2.2.2.2.2.1, cell_below hb1 hHeld.2.2.2.2.2.2.1, cell_below hb1 hHeld.2.2.2.2.2.2.2.1, cell_below hb1 hHeld.2.2.2.2.2.2.2.2.1, cell_below hb1 hHeld.2.2.2.2.2.2.2.2.2.1, cell_below hb1 hHeld.2.2.2.2.2.2.2.2.2.2.1, cell_below hb1 hHeld.2.2.2.2.2.2.2.2.2.2.2.1, cell_below hb1 hHeld.2.2.2.2.2.2.2.2.2.2.2.2.1, cell_below hb1 hHeld.2.2.2.2.2.2.2.2.2.2.2.2.2.1, cell_below hb1 hHeld.2.2.2.2.2.2.2.2.2.2.2.2.2.2.1, cell_below hb1 hHeld.2.2.2.2.2.2.2.2.2.2.2.2.2.2.2.1, cell_below hb1 hHeld.2.2.2.2.2.2.2.2.2.2.2.2.2.2.2.2.1, cell_below hb1 hHeld.2.2.2.2.2.2.2.2.2.2.2.2.2.2.2.2.2.1, cell_below hb1 hHeld.2.2.2.2.2.2.2.2.2.2.2.2.2.2.2.2.2.2.1, cell_below hb1 hHeld.2.2.2.2.2.2.2.2.2.2.2.2.2.2.2.2.2.2.2.1, cell_below hb1 hHeld.2.2.2.2.2.2.2.2.2.2.2.2.2.2.2.2.2.2.2.2.1, cell_below hb1 hHeld.2.2.2.2.2.2.2.2.2.2.2.2.2.2.2.2.2.2.2.2.2.1, cell_below hb1 hHeld.2.2.2.2.2.2.2.2.2.2.2.2.2.2.2.2.2.2.2.2.2.2.1, cell_below hb1 hHeld.2.2.2.2.2.2.2.2.2.2.2.2.2.2.2.2.2.2.2.2.2.2.2⟩
          clear hK K hHeld
          have hHeld := hHeld2
          clear hHeld2
          (try simp only [Act.put, List.setIfInBounds_toArray, List.set_cons_zero, List.set_cons_succ])
          refine held_take (i := 11) (v := ?_) rfl (by kernel_rfl) (by kernel_rfl) (by kernel_rfl) (fun _ _ _ h => h) (by kernel_rfl) ?_ hHeld ?_; rotate_left; focus (((intro w hSw; (try dsimp only at hSw); go_simp) <;> with_reducible rfl); done)
          (try simp only [Act.put, List.setIfInBounds_toArray, List.set_cons_zero, List.set_cons_succ])
          refine wpAnyH_done (by kernel_rfl) ?_ _
          go_wp2
          go_roundw
          case rel => exact ⟨k + 1, by omega, by omega, by go_num, by simpa using HST.out, HB2.out.trans ((below_undrew hb1).mono hwrs)⟩
          case measure => simp [intOf]; omega
        · have hzb : (z != 0) = true := by simpa using hz
          go_wp2
          refine wp_region_held_drew (S := (fun w' => w'.cell? ⟨w.heap.size, 7, none⟩ = some (.slice (some ⟨bA, off, none⟩) ts.length c7) ∧ w'.cell? ⟨w.heap.size + 1, 7, none⟩ = some (.slice (some ⟨bC, ofc, none⟩) us.length c7Y) ∧ w'.cell? ⟨bA, off + k * 11, none⟩ = some q0 ∧ w'.cell? ⟨bA, off + k * 11 + 1, none⟩ = some q1 ∧ w'.cell? ⟨bA, off + k * 11 + 2, none⟩ = some q2 ∧ w'.cell? ⟨bA, off + k * 11 + 3, none⟩ = some q3 ∧ w'.cell? ⟨bA, off + k * 11 + 4, none⟩ = some q4 ∧ w'.cell? ⟨bA, off + k * 11 + 5, none⟩ = some q5 ∧ w'.cell? ⟨bA, off + k * 11 + 6, none⟩ = some q6 ∧ w'.cell? ⟨bA, off + k * 11 + 7, none⟩ = some q7 ∧ w'.cell? ⟨bA, off + k * 11 + 8, none⟩ = some q8 ∧ w'.cell? ⟨bA, off + k * 11 + 9, none⟩ = some q9 ∧ w'.cell? ⟨bA, off + k * 11 + 10, none⟩ = some q10 ∧ w'.cell? ⟨bC, ofc + k * 11, none⟩ = some p0 ∧ w'.cell? ⟨bC, ofc + k * 11 + 1, none⟩ = some p1 ∧ w'.cell? ⟨bC, ofc + k * 11 + 2, none⟩ = some p2 ∧ w'.cell? ⟨bC, ofc + k * 11 + 3, none⟩ = some p3 ∧ w'.cell? ⟨bC, ofc + k * 11 + 4, none⟩ = some p4 ∧ w'.cell? ⟨bC, ofc + k * 11 + 5, none⟩ = some p5 ∧ w'.cell? ⟨bC, ofc + k * 11 + 6, none⟩ = some p6 ∧ w'.cell? ⟨bC, ofc + k * 11 + 7, none⟩ = some p7 ∧ w'.cell? ⟨bC, ofc + k * 11 + 8, none⟩ = some p8 ∧ w'.cell? ⟨bC, ofc + k * 11 + 9, none⟩ = some p9 ∧ w'.cell? ⟨bC, ofc + k * 11 + 10, none⟩ = some p10)) (by kernel_rfl) ⟨hs1, hs2, hc0, hc1, hc2, hc3, hc4, hc5, hc6, hc7, hc8, hc9, hc10, he0, he1, he2, he3, he4, he5, he6, he7, he8, he9, he10⟩ (fun hHeld => ?_)
          refine held_take (i := 0) (v := ?_) rfl (by kernel_rfl) (by kernel_rfl) (by kernel_rfl) (fun _ _ _ h => h) (by kernel_rfl) ?_ hHeld ?_; rotate_left; focus (((intro w hSw; (try dsimp only at hSw); go_simp) <;> with_reducible rfl); done)
          (try simp only [Act.put, List.setIfInBounds_toArray, List.set_cons_zero, List.set_cons_succ])
          refine held_take (i := 1) (v := ?_) rfl (by kernel_rfl) (by kernel_rfl) (by kernel_rfl) (fun _ _ _ h => h) (by kernel_rfl) ?_ hHeld ?_; rotate_left; focus (((intro w hSw; (try dsimp only at hSw); go_simp) <;> with_reducible rfl); done)
          (try simp only [Act.put, List.setIfInBounds_toArray, List.set_cons_zero, List.set_cons_succ])
          refine held_take (i := 2) (v := ?_) rfl (by kernel_rfl) (by kernel_rfl) (by kernel_rfl) (fun _ _ _ h => h) (by kernel_rfl) ?_ hHeld ?_; rotate_left; focus (((intro w hSw; (try dsimp only at hSw); go_simp) <;> with_reducible rfl); done)
          (try simp only [Act.put, List.setIfInBounds_toArray, List.set_cons_zero, List.set_cons_succ])
          refine held_take (i := 3) (v := ?_) rfl (by kernel_rfl) (by kernel_rfl) (by kernel_rfl) (fun _ _ _ h => h) (by kernel_rfl) ?_ hHeld ?_; rotate_left; focus (((intro w hSw; (try dsimp only at hSw); go_simp) <;> with_reducible rfl); done)
          (try simp only [Act.put, List.setIfInBounds_toArray, List.set_cons_zero, List.set_cons_succ])
          refine held_take (i := 4) (v := ?_) rfl (by kernel_rfl) (by kernel_rfl) (by kernel_rfl) (fun _ _ _ h => h) (by kernel_rfl) ?_ hHeld ?_; rotate_left; focus (((intro w hSw; (try dsimp only at hSw); go_simp) <;> with_reducible rfl); done)
          (try simp only [Act.put, List.setIfInBounds_toArray, List.set_cons_zero, List.set_cons_succ])
          refine held_take (i := 5) (v := ?_) rfl (by kernel_rfl) (by kernel_rfl) (by kernel_rfl) (fun _ _ _ h => h) (by kernel_rfl) ?_ hHeld ?_; rotate_left; focus (((intro w hSw; (try dsimp only at hSw); go_simp) <;> with_reducible rfl); done)
          (try simp only [Act.put, List.setIfInBounds_toArray, List.set_cons_zero, List.set_cons_succ])
          refine held_take (i := 6) (v := ?_) rfl (by kernel_rfl) (by kernel_rfl) (by kernel_rfl) (fun _ _ _ h => h) (by kernel_rfl) ?_ hHeld ?_; rotate_left; focus (((intro w hSw; (try dsimp only at hSw); go_simp) <;> with_reducible rfl); done)
          (try simp only [Act.put, List.setIfInBounds_toArray, List.set_cons_zero, List.set_cons_succ])
          refine held_take (i := 7) (v := ?_) rfl (by kernel_rfl) (by kernel_rfl) (by kernel_rfl) (fun _ _ _ h => h) (by kernel_rfl) ?_ hHeld ?_; rotate_left; focus (((intro w hSw; (try dsimp only at hSw); go_simp) <;> with_reducible rfl); done)
          (try simp only [Act.put, List.setIfInBounds_toArray, List.set_cons_zero, List.set_cons_succ])
          refine held_take (i := 8) (v := ?_) rfl (by kernel_rfl) (by kernel_rfl) (by kernel_rfl) (fun _ _ _ h => h) (by kernel_rfl) ?_ hHeld ?_; rotate_left; focus (((intro w hSw; (try dsimp only at hSw); go_simp) <;> with_reducible rfl); done)
          (try simp only [Act.put, List.setIfInBounds_toArray, List.set_cons_zero, List.set_cons_succ])
          refine held_take (i := 9) (v := ?_) rfl (by kernel_rfl) (by kernel_rfl) (by kernel_rfl) (fun _ _ _ h => h) (by kernel_rfl) ?_ hHeld ?_; rotate_left; focus (((intro w hSw; (try dsimp only at hSw); go_simp) <;> with_reducible rfl); done)
          (try simp only [Act.put, List.setIfInBounds_toArray, List.set_cons_zero, List.set_cons_succ])
          refine held_call (i := 10) rfl (by kernel_rfl) (by kernel_rfl) (fun K hK => ?_)
          go_simp
          (refine (HCALL.out _ rfl).mono ?_; rintro e w1 ⟨rfl, hb1⟩)
          refine hK.out _ _ ?_ (fun hHeld2 => ?_)
          · exact ⟨cell_below hb1 hHeld.1, cell_below hb1 hHeld.2.1, cell_below hb1 hHeld.2.2.1, cell_below hb1 hHeld.2.2.2.1, cell_below hb1 hHeld.2.2.2.2.1, cell_below hb1 hHeld.2.2.2.2.2.1, cell_below hb1 hHeld.2.2.2.2.2.2.1, cell_below hb1 hHeld.2.2.2.2.2.2.2.1, cell_below hb1 hHeld.2.2.2.2.2.2.2.2.1, cell_below hb1 hHeld.2.2.2.2.2.2.2.2.2.1, cell_below hb1 hHeld.2.2.2.2.2.2.2.2.2.2.1, cell_below hb1 hHeld.2.2.2.2.2.2.2.2.2.2.2.1, cell_below hb1 hHeld.2.2.2.2.2.2.2.2.2.2.2.2.1, cell_below hb1 hHeld.2.2.2.2.2.2.2.2.2.2.2.2.2.1, cell_below hb1 hHeld.2.2.2.2.2.2.2.2.2.2.2.2.2.2.1, cell_below hb1 hHeld.2.2.2.2.2.2.2.2.2.2.2.2.2.2.2.1, cell_below hb1 hHeld.2.2.2.2.2.2.2.2.2.2.2.2.2.2.2.2.1, cell_below hb1 hHeld.2.2.2.2.2.2.2.2.2.2.2.2.2.2.2.2.2.1, cell_below hb1 hHeld.2.2.2.2.2.2.2.2.2.2.2.2.2.2.2.2.2.2.1, cell_below hb1 hHeld.2.2.2.2.2.2.2.2.2.2.2.2.2.2.2.2.2.2.2.1, cell_below hb1 hHeld.2.2.2.2.2.2.2.2.2.2.2.2.2.2.2.2.2.2.2.2.1, cell_below hb1 hHeld.2.2.2.2.2.2.2.2.2.2.2.2.2.2.2.2.2.2.2.2.2.1, cell_below hb1 hHeld.2.2.2.2.2.2.2.2.2.2.2.2.2.2.2.2.2.2.2.2.2.2.1, cell_below hb1 hHeld.2.2.2.2.2.2.2.2.2.2.2.2.2.2.2.2.2.2.2.2.2.2.2⟩
          clear hK K hHeld
          have hHeld := hHeld2
          clear hHeld2
          (try simp only [Act.put, List.setIfInBounds_toArray, List.set_cons_zero, List.set_cons_succ])
          refine held_take (i := 11) (v := ?_) rfl (by kernel_rfl) (by kernel_rfl) (by kernel_rfl) (fun _ _ _ h => h) (by kernel_rfl) ?_ hHeld ?_; rotate_left; focus (((intro w hSw; (try dsimp only at hSw); go_simp) <;> with_reducible rfl); done)
          (try simp only [Act.put, List.setIfInBounds_toArray, List.set_cons_zero, List.set_cons_succ])
          refine wpAnyH_done (by kernel_rfl) ?_ _
          go_wp2
          go_ret
          have h3 := HST.out
          rw [if_neg hz] at h3
          exact ⟨by rw [← h3]; rfl, HBL.out.trans ((below_undrew hb1).mono HBL.out.size)⟩
      · have hd2 : decide ((k : Int) < (us.length : Int)) = false := by simp; omega
        go_wp2_with (first | (go_at_call 55; refine (HN.out _ _ _).mono ?_; rintro e w1 ⟨rfl, hw1⟩; subst w1))
        go_ret
        refine ⟨?_, HBL.out⟩
        rw [← HEQ.out, cmpsV_end_right (by rw [builds_len]; exact hlt) (by rw [builds_len]; omega)]
        show Ending.returned (.int .i64 (sgn (ts.length : Int) (us.length : Int))) = _
        rw [show sgn (ts.length : Int) (us.length : Int) = 1 by unfold sgn; rw [if_neg (by omega), if_pos (by omega)]]
    · obtain rfl : k = ts.length := by omega
      have hd1 : decide ((ts.length : Int) < (ts.length : Int)) = false := by simp
      go_wp2_with (first | (go_at_call 55; refine (HN.out _ _ _).mono ?_; rintro e w1 ⟨rfl, hw1⟩; subst w1))
      go_ret
      refine ⟨?_, HBL.out⟩
      show Ending.returned (.int .i64 (sgn (ts.length : Int) (us.length : Int))) = _
      by_cases hlb : ts.length < us.length
      · rw [← HEQ.out, cmpsV_end_left (by rw [builds_len]) (by rw [builds_len]; exact hlb)]
        rw [show sgn (ts.length : Int) (us.length : Int) = -1 by unfold sgn; rw [if_pos (by omega)]]
      · rw [← HEQ.out, cmpsV_end (by rw [builds_len]) (by rw [builds_len]; omega)]
        rw [show sgn (ts.length : Int) (us.length : Int) = 0 by unfold sgn; rw [if_neg (by omega), if_neg (by omega)]]

set_option maxRecDepth 20000 in
set_option maxHeartbeats 2000000 in
theorem cmp_9 (ts us : List Tm) (ns ms : List ByteArray) (rows rous : List (List Value)) (b : Bool) (i : Int) (f : Nat) (s : ByteArray) (A5 : Option Addr) (n5 c5 : Nat) (r : Int) (A7 : Option Addr) (n7 : Nat) (c7 : Nat) (A8 : Option Addr) (c8 : Nat) (c : ByteArray) (v : Int)
    (bY : Bool) (iY : Int) (fY : Nat) (sY : ByteArray) (A5Y : Option Addr) (n5Y c5Y : Nat) (rY : Int) (A7Y : Option Addr) (n7Y : Nat) (c7Y : Nat) (A8Y : Option Addr) (c8Y : Nat) (cY : ByteArray) (vY : Int) (w : World) (B : Nat) (hB : B ≤ w.heap.size)
    (h1 : Rd w B 12 A8 ts.length (entRows ns rows)) (h2 : Rd w B 12 A8Y us.length (entRows ms rous)) (t1 : TmsAt w B ts rows) (t2 : TmsAt w B us rous) (hns : ns.length = ts.length) (hms : ms.length = us.length)
    (hl1 : ts.length ≤ 1048576) (hl2 : us.length ≤ 1048576) (ga : goodsV (builds ts)) (gb : goodsV (builds us)) (ih : ∀ t ∈ ts, CmpAt t) (res : Int) (hr : cmpF (builds ts) ns ms (builds us) = res) :
    Calls Try.prog 37 #[.agg #[.int .i64 9, .bool b, .int .i64 i, .float .f64 f, .string s, .slice A5 n5 c5, .int .u64 r, .slice A7 n7 c7, .slice A8 ts.length c8, .string c, .int .i64 v], .agg #[.int .i64 9, .bool bY, .int .i64 iY, .float .f64 fY, .string sY, .slice A5Y n5Y c5Y, .int .u64 rY, .slice A7Y n7Y c7Y, .slice A8Y us.length c8Y, .string cY, .int .i64 vY]] w (Gives res w) := by
  have HBL : Hid (Below w.heap.size w ((w.alloc (.cells #[.int .i64 9, .bool b, .int .i64 i, .float .f64 f, .string s, .slice A5 n5 c5, .int .u64 r, .slice A7 n7 c7, .slice A8 ts.length c8, .string c, .int .i64 v] 31)).alloc (.cells #[.int .i64 9, .bool bY, .int .i64 iY, .float .f64 fY, .string sY, .slice A5Y n5Y c5Y, .int .u64 rY, .slice A7Y n7Y c7Y, .slice A8Y us.length c8Y, .string cY, .int .i64 vY] 31))) := Lib.hid (((Below.refl _ _).alloc (Nat.le_refl _) _).alloc (by simp) _)
  have HF : Hid (∀ V, V = ((w.alloc (.cells #[.int .i64 9, .bool b, .int .i64 i, .float .f64 f, .string s, .slice A5 n5 c5, .int .u64 r, .slice A7 n7 c7, .slice A8 ts.length c8, .string c, .int .i64 v] 31)).alloc (.cells #[.int .i64 9, .bool bY, .int .i64 iY, .float .f64 fY, .string sY, .slice A5Y n5Y c5Y, .int .u64 rY, .slice A7Y n7Y c7Y, .slice A8Y us.length c8Y, .string cY, .int .i64 vY] 31)) → Calls Try.prog 59 #[.slice A8 ts.length c8, .slice A8Y us.length c8Y] V (Gives res V)) := Lib.hid fun V hV => by
    rw [hV]
    exact rfields_any ts us ns ms rows rous A8 A8Y c8 c8Y _ B (Nat.le_trans hB HBL.out.size) (h1.below HBL.out hB) (h2.below HBL.out hB) (t1.below HBL.out hB) (t2.below HBL.out hB) hns hms hl1 hl2 ga gb ih _ hr
  clear h1 h2 t1 t2 hns hms ga gb ih hr
  go_enter Try.func37, Try.ntmps37
  go_wp2_with (first | (go_at_call 59; refine (HF.out _ ?_).mono ?_; exact rfl; rintro e w2 ⟨rfl, hb2⟩))
  go_ret
  exact ⟨rfl, HBL.out.trans (hb2.mono HBL.out.size)⟩

set_option maxRecDepth 20000 in
set_option maxHeartbeats 2000000 in
theorem cmp_10_class (ts us : List Tm) (ns ms : List ByteArray) (rows rous : List (List Value)) (b : Bool) (i : Int) (f : Nat) (s : ByteArray) (A5 : Option Addr) (n5 c5 : Nat) (r : Int) (A7 : Option Addr) (n7 : Nat) (c7 : Nat) (A8 : Option Addr) (c8 : Nat) (c : ByteArray) (v : Int)
    (bY : Bool) (iY : Int) (fY : Nat) (sY : ByteArray) (A5Y : Option Addr) (n5Y c5Y : Nat) (rY : Int) (A7Y : Option Addr) (n7Y : Nat) (c7Y : Nat) (A8Y : Option Addr) (c8Y : Nat) (cY : ByteArray) (vY : Int) (w : World) (B : Nat) (hB : B ≤ w.heap.size)
    (h1 : Rd w B 12 A8 ts.length (entRows ns rows)) (h2 : Rd w B 12 A8Y us.length (entRows ms rous)) (t1 : TmsAt w B ts rows) (t2 : TmsAt w B us rous) (hns : ns.length = ts.length) (hms : ms.length = us.length)
    (hl1 : ts.length ≤ 1048576) (hl2 : us.length ≤ 1048576) (ga : goodsV (builds ts)) (gb : goodsV (builds us)) (ih : ∀ t ∈ ts, CmpAt t) (res : Int) (hr : cmpF (builds ts) ns ms (builds us) = res) (q : Int) (hq : cmpT c cY = q) (hq0 : (q != 0) = true) :
    Calls Try.prog 37 #[.agg #[.int .i64 10, .bool b, .int .i64 i, .float .f64 f, .string s, .slice A5 n5 c5, .int .u64 r, .slice A7 n7 c7, .slice A8 ts.length c8, .string c, .int .i64 v], .agg #[.int .i64 10, .bool bY, .int .i64 iY, .float .f64 fY, .string sY, .slice A5Y n5Y c5Y, .int .u64 rY, .slice A7Y n7Y c7Y, .slice A8Y us.length c8Y, .string cY, .int .i64 vY]] w (Gives q w) := by
  have HBL : Hid (Below w.heap.size w ((w.alloc (.cells #[.int .i64 10, .bool b, .int .i64 i, .float .f64 f, .string s, .slice A5 n5 c5, .int .u64 r, .slice A7 n7 c7, .slice A8 ts.length c8, .string c, .int .i64 v] 31)).alloc (.cells #[.int .i64 10, .bool bY, .int .i64 iY, .float .f64 fY, .string sY, .slice A5Y n5Y c5Y, .int .u64 rY, .slice A7Y n7Y c7Y, .slice A8Y us.length c8Y, .string cY, .int .i64 vY] 31))) := Lib.hid (((Below.refl _ _).alloc (Nat.le_refl _) _).alloc (by simp) _)
  have HF : Hid (∀ V, V = ((w.alloc (.cells #[.int .i64 10, .bool b, .int .i64 i, .float .f64 f, .string s, .slice A5 n5 c5, .int .u64 r, .slice A7 n7 c7, .slice A8 ts.length c8, .string c, .int .i64 v] 31)).alloc (.cells #[.int .i64 10, .bool bY, .int .i64 iY, .float .f64 fY, .string sY, .slice A5Y n5Y c5Y, .int .u64 rY, .slice A7Y n7Y c7Y, .slice A8Y us.length c8Y, .string cY, .int .i64 vY] 31)) → Calls Try.prog 59 #[.slice A8 ts.length c8, .slice A8Y us.length c8Y] V (Gives res V)) := Lib.hid fun V hV => by
    rw [hV]
    exact rfields_any ts us ns ms rows rous A8 A8Y c8 c8Y _ B (Nat.le_trans hB HBL.out.size) (h1.below HBL.out hB) (h2.below HBL.out hB) (t1.below HBL.out hB) (t2.below HBL.out hB) hns hms hl1 hl2 ga gb ih _ hr
  have HT : Hid (∀ w, Calls Try.prog 58 #[.string c, .string cY] w (fun e w' => e = .returned (.int .i64 q) ∧ w' = w)) := Lib.hid (hq ▸ rtexts_any c cY)
  clear hq
  clear h1 h2 t1 t2 hns hms ga gb ih hr
  go_enter Try.func37, Try.ntmps37
  go_wp2_with (first | (go_at_call 58; refine (HT.out _).mono ?_; rintro e w1 ⟨rfl, hw1⟩; subst w1) )
  go_ret
  exact ⟨rfl, HBL.out⟩

set_option maxRecDepth 20000 in
set_option maxHeartbeats 2000000 in
theorem cmp_10_ver (ts us : List Tm) (ns ms : List ByteArray) (rows rous : List (List Value)) (b : Bool) (i : Int) (f : Nat) (s : ByteArray) (A5 : Option Addr) (n5 c5 : Nat) (r : Int) (A7 : Option Addr) (n7 : Nat) (c7 : Nat) (A8 : Option Addr) (c8 : Nat) (c : ByteArray) (v : Int)
    (bY : Bool) (iY : Int) (fY : Nat) (sY : ByteArray) (A5Y : Option Addr) (n5Y c5Y : Nat) (rY : Int) (A7Y : Option Addr) (n7Y : Nat) (c7Y : Nat) (A8Y : Option Addr) (c8Y : Nat) (cY : ByteArray) (vY : Int) (w : World) (B : Nat) (hB : B ≤ w.heap.size)
    (h1 : Rd w B 12 A8 ts.length (entRows ns rows)) (h2 : Rd w B 12 A8Y us.length (entRows ms rous)) (t1 : TmsAt w B ts rows) (t2 : TmsAt w B us rous) (hns : ns.length = ts.length) (hms : ms.length = us.length)
    (hl1 : ts.length ≤ 1048576) (hl2 : us.length ≤ 1048576) (ga : goodsV (builds ts)) (gb : goodsV (builds us)) (ih : ∀ t ∈ ts, CmpAt t) (res : Int) (hr : cmpF (builds ts) ns ms (builds us) = res) (q : Int) (hq : cmpT c cY = q) (hq0 : q = 0) (hv : (v != vY) = true) (hv1 : IntKind.u64.wrap v = v) (hv2 : IntKind.u64.wrap vY = vY) :
    Calls Try.prog 37 #[.agg #[.int .i64 10, .bool b, .int .i64 i, .float .f64 f, .string s, .slice A5 n5 c5, .int .u64 r, .slice A7 n7 c7, .slice A8 ts.length c8, .string c, .int .i64 v], .agg #[.int .i64 10, .bool bY, .int .i64 iY, .float .f64 fY, .string sY, .slice A5Y n5Y c5Y, .int .u64 rY, .slice A7Y n7Y c7Y, .slice A8Y us.length c8Y, .string cY, .int .i64 vY]] w (Gives (sgn v vY) w) := by
  have HBL : Hid (Below w.heap.size w ((w.alloc (.cells #[.int .i64 10, .bool b, .int .i64 i, .float .f64 f, .string s, .slice A5 n5 c5, .int .u64 r, .slice A7 n7 c7, .slice A8 ts.length c8, .string c, .int .i64 v] 31)).alloc (.cells #[.int .i64 10, .bool bY, .int .i64 iY, .float .f64 fY, .string sY, .slice A5Y n5Y c5Y, .int .u64 rY, .slice A7Y n7Y c7Y, .slice A8Y us.length c8Y, .string cY, .int .i64 vY] 31))) := Lib.hid (((Below.refl _ _).alloc (Nat.le_refl _) _).alloc (by simp) _)
  have HF : Hid (∀ V, V = ((w.alloc (.cells #[.int .i64 10, .bool b, .int .i64 i, .float .f64 f, .string s, .slice A5 n5 c5, .int .u64 r, .slice A7 n7 c7, .slice A8 ts.length c8, .string c, .int .i64 v] 31)).alloc (.cells #[.int .i64 10, .bool bY, .int .i64 iY, .float .f64 fY, .string sY, .slice A5Y n5Y c5Y, .int .u64 rY, .slice A7Y n7Y c7Y, .slice A8Y us.length c8Y, .string cY, .int .i64 vY] 31)) → Calls Try.prog 59 #[.slice A8 ts.length c8, .slice A8Y us.length c8Y] V (Gives res V)) := Lib.hid fun V hV => by
    rw [hV]
    exact rfields_any ts us ns ms rows rous A8 A8Y c8 c8Y _ B (Nat.le_trans hB HBL.out.size) (h1.below HBL.out hB) (h2.below HBL.out hB) (t1.below HBL.out hB) (t2.below HBL.out hB) hns hms hl1 hl2 ga gb ih _ hr
  have HN := Lib.hid rnumbers_any
  subst hq0
  have HT : Hid (∀ w, Calls Try.prog 58 #[.string c, .string cY] w (fun e w' => e = .returned (.int .i64 0) ∧ w' = w)) := Lib.hid (hq ▸ rtexts_any c cY)
  clear hq
  clear h1 h2 t1 t2 hns hms ga gb ih hr
  go_enter Try.func37, Try.ntmps37
  go_wp2_with (first | (go_at_call 58; refine (HT.out _).mono ?_; rintro e w1 ⟨rfl, hw1⟩; subst w1) | (go_at_call 55; refine (HN.out _ _ _).mono ?_; rintro e w1 ⟨rfl, hw1⟩; subst w1))
  go_ret
  exact ⟨rfl, HBL.out⟩

set_option maxRecDepth 20000 in
set_option maxHeartbeats 2000000 in
theorem cmp_10_same (ts us : List Tm) (ns ms : List ByteArray) (rows rous : List (List Value)) (b : Bool) (i : Int) (f : Nat) (s : ByteArray) (A5 : Option Addr) (n5 c5 : Nat) (r : Int) (A7 : Option Addr) (n7 : Nat) (c7 : Nat) (A8 : Option Addr) (c8 : Nat) (c : ByteArray) (v : Int)
    (bY : Bool) (iY : Int) (fY : Nat) (sY : ByteArray) (A5Y : Option Addr) (n5Y c5Y : Nat) (rY : Int) (A7Y : Option Addr) (n7Y : Nat) (c7Y : Nat) (A8Y : Option Addr) (c8Y : Nat) (cY : ByteArray) (vY : Int) (w : World) (B : Nat) (hB : B ≤ w.heap.size)
    (h1 : Rd w B 12 A8 ts.length (entRows ns rows)) (h2 : Rd w B 12 A8Y us.length (entRows ms rous)) (t1 : TmsAt w B ts rows) (t2 : TmsAt w B us rous) (hns : ns.length = ts.length) (hms : ms.length = us.length)
    (hl1 : ts.length ≤ 1048576) (hl2 : us.length ≤ 1048576) (ga : goodsV (builds ts)) (gb : goodsV (builds us)) (ih : ∀ t ∈ ts, CmpAt t) (res : Int) (hr : cmpF (builds ts) ns ms (builds us) = res) (q : Int) (hq : cmpT c cY = q) (hq0 : q = 0) (hv : (v != vY) = false) :
    Calls Try.prog 37 #[.agg #[.int .i64 10, .bool b, .int .i64 i, .float .f64 f, .string s, .slice A5 n5 c5, .int .u64 r, .slice A7 n7 c7, .slice A8 ts.length c8, .string c, .int .i64 v], .agg #[.int .i64 10, .bool bY, .int .i64 iY, .float .f64 fY, .string sY, .slice A5Y n5Y c5Y, .int .u64 rY, .slice A7Y n7Y c7Y, .slice A8Y us.length c8Y, .string cY, .int .i64 vY]] w (Gives res w) := by
  have HBL : Hid (Below w.heap.size w ((w.alloc (.cells #[.int .i64 10, .bool b, .int .i64 i, .float .f64 f, .string s, .slice A5 n5 c5, .int .u64 r, .slice A7 n7 c7, .slice A8 ts.length c8, .string c, .int .i64 v] 31)).alloc (.cells #[.int .i64 10, .bool bY, .int .i64 iY, .float .f64 fY, .string sY, .slice A5Y n5Y c5Y, .int .u64 rY, .slice A7Y n7Y c7Y, .slice A8Y us.length c8Y, .string cY, .int .i64 vY] 31))) := Lib.hid (((Below.refl _ _).alloc (Nat.le_refl _) _).alloc (by simp) _)
  have HF : Hid (∀ V, V = ((w.alloc (.cells #[.int .i64 10, .bool b, .int .i64 i, .float .f64 f, .string s, .slice A5 n5 c5, .int .u64 r, .slice A7 n7 c7, .slice A8 ts.length c8, .string c, .int .i64 v] 31)).alloc (.cells #[.int .i64 10, .bool bY, .int .i64 iY, .float .f64 fY, .string sY, .slice A5Y n5Y c5Y, .int .u64 rY, .slice A7Y n7Y c7Y, .slice A8Y us.length c8Y, .string cY, .int .i64 vY] 31)) → Calls Try.prog 59 #[.slice A8 ts.length c8, .slice A8Y us.length c8Y] V (Gives res V)) := Lib.hid fun V hV => by
    rw [hV]
    exact rfields_any ts us ns ms rows rous A8 A8Y c8 c8Y _ B (Nat.le_trans hB HBL.out.size) (h1.below HBL.out hB) (h2.below HBL.out hB) (t1.below HBL.out hB) (t2.below HBL.out hB) hns hms hl1 hl2 ga gb ih _ hr
  subst hq0
  have HT : Hid (∀ w, Calls Try.prog 58 #[.string c, .string cY] w (fun e w' => e = .returned (.int .i64 0) ∧ w' = w)) := Lib.hid (hq ▸ rtexts_any c cY)
  clear hq
  clear h1 h2 t1 t2 hns hms ga gb ih hr
  go_enter Try.func37, Try.ntmps37
  go_wp2_with (first | (go_at_call 58; refine (HT.out _).mono ?_; rintro e w1 ⟨rfl, hw1⟩; subst w1) | (go_at_call 59; refine (HF.out _ ?_).mono ?_; exact rfl; rintro e w2 ⟨rfl, hb2⟩))
  go_ret
  exact ⟨rfl, HBL.out.trans (hb2.mono HBL.out.size)⟩

theorem i64_range {n : Int} (h : (Lit.int .i64 n).wf = true) : -9223372036854775808 ≤ n ∧ n ≤ 9223372036854775807 := by
  have h' : (decide ((-9223372036854775808 : Int) ≤ n) && decide (n ≤ 9223372036854775807)) = true := h
  simpa using h'

theorem good_kind {k : Int} {b : Bool} {i : Int} {f : Nat} {s : ByteArray} {bs : List UInt8} {r : Int} {l : List Tm} {ns : List ByteArray} {vs : List Tm} {c : ByteArray} {v : Int} (h : goodV (build (.mk k b i f s bs r l ns vs c v))) : 1 ≤ k ∧ k ≤ 10 ∧ kindOf (build (.mk k b i f s bs r l ns vs c v)) = k := by
  unfold build at h ⊢
  by_cases k1 : k = 1
  · subst k1; simp [kindOf]
  by_cases k2 : k = 2
  · subst k2; simp [kindOf]
  by_cases k3 : k = 3
  · subst k3; simp [kindOf]
  by_cases k4 : k = 4
  · subst k4; simp [kindOf]
  by_cases k5 : k = 5
  · subst k5; simp [kindOf]
  by_cases k6 : k = 6
  · subst k6; simp [kindOf]
  by_cases k7 : k = 7
  · subst k7; simp [kindOf]
  by_cases k8 : k = 8
  · subst k8; simp [kindOf]
  by_cases k9 : k = 9
  · subst k9; simp [kindOf]
  by_cases k10 : k = 10
  · subst k10; simp [kindOf]
  rw [if_neg k1, if_neg k2, if_neg k3, if_neg k4, if_neg k5, if_neg k6, if_neg k7, if_neg k8, if_neg k9, if_neg k10] at h
  split at h <;> simp [goodV] at h

theorem cmp_any : ∀ (n : Nat) (t : Tm), SizeOf.sizeOf t < n → CmpAt t := by
  intro n
  induction n with
  | zero => intro t ht; omega
  | succ n ihn =>
    intro t ht u cs ds w B hB h h' gt gu
    obtain ⟨k, b, i, f, s, bs, r, l, ns, vs, c, v⟩ := t
    obtain ⟨kY, bY, iY, fY, sY, bsY, rY, lY, nsY, vsY, cY, vY⟩ := u
    have ihl : ∀ t ∈ l, CmpAt t := fun t hm => ihn t (by have := List.sizeOf_lt_of_mem hm; simp at ht; omega)
    have ihv : ∀ t ∈ vs, CmpAt t := fun t hm => ihn t (by have := List.sizeOf_lt_of_mem hm; simp at ht; omega)
    simp only [TmAt] at h h'
    obtain ⟨A5, c5, A7, c7, A8, c8, rfl, h5, ⟨rows7, h7, h7'⟩, hns, ⟨rows8, h8, h8'⟩, ⟨b1, b2, b3, b4, b5, b6⟩, w1, w2, w3, w4, w5⟩ := h
    obtain ⟨A5Y, c5Y, A7Y, c7Y, A8Y, c8Y, rfl, h5Y, ⟨rows7Y, h7Y, h7'Y⟩, hnsY, ⟨rows8Y, h8Y, h8'Y⟩, ⟨b1Y, b2Y, b3Y, b4Y, b5Y, b6Y⟩, w1Y, w2Y, w3Y, w4Y, w5Y⟩ := h'
    obtain ⟨g1, g2, g3⟩ := good_kind gt
    obtain ⟨g1Y, g2Y, g3Y⟩ := good_kind gu
    by_cases hkk : k = kY
    · subst hkk
      have : k = 1 ∨ k = 2 ∨ k = 3 ∨ k = 4 ∨ k = 5 ∨ k = 6 ∨ k = 7 ∨ k = 8 ∨ k = 9 ∨ k = 10 := by omega
      rcases this with rfl | rfl | rfl | rfl | rfl | rfl | rfl | rfl | rfl | rfl
      · have e : cmpV (build (.mk 1 b i f s bs r l ns vs c v)) (build (.mk 1 bY iY fY sY bsY rY lY nsY vsY cY vY)) = 0 := by simp [build, cmpV, kindOf, sgn]
        rw [e]
        exact cmp_1 b i f s A5 _ c5 r A7 _ c7 A8 _ c8 c v bY iY fY sY A5Y _ c5Y rY A7Y _ c7Y A8Y _ c8Y cY vY w
      · have e : cmpV (build (.mk 2 b i f s bs r l ns vs c v)) (build (.mk 2 bY iY fY sY bsY rY lY nsY vsY cY vY)) = sgn (tr b) (tr bY) := by simp [build, cmpV]
        rw [e]
        exact cmp_2 b i f s A5 _ c5 r A7 _ c7 A8 _ c8 c v bY iY fY sY A5Y _ c5Y rY A7Y _ c7Y A8Y _ c8Y cY vY w
      · have e : cmpV (build (.mk 3 b i f s bs r l ns vs c v)) (build (.mk 3 bY iY fY sY bsY rY lY nsY vsY cY vY)) = sgn i iY := by simp [build, cmpV]
        rw [e]
        exact cmp_3 b i f s A5 _ c5 r A7 _ c7 A8 _ c8 c v bY iY fY sY A5Y _ c5Y rY A7Y _ c7Y A8Y _ c8Y cY vY w (i64_range w2) (i64_range w2Y)
      · have e : cmpV (build (.mk 4 b i f s bs r l ns vs c v)) (build (.mk 4 bY iY fY sY bsY rY lY nsY vsY cY vY)) = sgn (placeF f) (placeF fY) := by simp [build, cmpV]
        rw [e]
        exact cmp_4 b i f s A5 _ c5 r A7 _ c7 A8 _ c8 c v bY iY fY sY A5Y _ c5Y rY A7Y _ c7Y A8Y _ c8Y cY vY w (by simpa [Lit.wf] using w3) (by simpa [Lit.wf] using w3Y)
      · have e : cmpV (build (.mk 5 b i f s bs r l ns vs c v)) (build (.mk 5 bY iY fY sY bsY rY lY nsY vsY cY vY)) = cmpT s sY := by simp [build, cmpV]
        rw [e]
        exact cmp_5 b i f s A5 _ c5 r A7 _ c7 A8 _ c8 c v bY iY fY sY A5Y _ c5Y rY A7Y _ c7Y A8Y _ c8Y cY vY w _ rfl
      · have e : cmpV (build (.mk 6 b i f s bs r l ns vs c v)) (build (.mk 6 bY iY fY sY bsY rY lY nsY vsY cY vY)) = cmpL bs bsY := by simp [build, cmpV]
        rw [e]
        exact cmp_6 b i f s A5 bs c5 r A7 _ c7 A8 _ c8 c v bY iY fY sY A5Y bsY c5Y rY A7Y _ c7Y A8Y _ c8Y cY vY w B hB h5 h5Y _ rfl
      · have e : cmpV (build (.mk 7 b i f s bs r l ns vs c v)) (build (.mk 7 bY iY fY sY bsY rY lY nsY vsY cY vY)) = sgn r rY := by simp [build, cmpV]
        rw [e]
        exact cmp_7 b i f s A5 _ c5 r A7 _ c7 A8 _ c8 c v bY iY fY sY A5Y _ c5Y rY A7Y _ c7Y A8Y _ c8Y cY vY w _ rfl
      · have e : cmpV (build (.mk 8 b i f s bs r l ns vs c v)) (build (.mk 8 bY iY fY sY bsY rY lY nsY vsY cY vY)) = cmpsV (builds l) (builds lY) := by simp [build, cmpV]
        rw [e]
        exact cmp_8 l lY rows7 rows7Y b i f s A5 _ c5 r A7 c7 A8 _ c8 c v bY iY fY sY A5Y _ c5Y rY A7Y c7Y A8Y _ c8Y cY vY w B hB h7 h7Y h7' h7'Y b3 b3Y (by simpa [build, goodV] using gt) (by simpa [build, goodV] using gu) ihl _ rfl
      · have e : cmpV (build (.mk 9 b i f s bs r l ns vs c v)) (build (.mk 9 bY iY fY sY bsY rY lY nsY vsY cY vY)) = cmpF (builds vs) ns nsY (builds vsY) := by simp [build, cmpV]
        rw [e]
        exact cmp_9 vs vsY ns nsY rows8 rows8Y b i f s A5 _ c5 r A7 _ c7 A8 c8 c v bY iY fY sY A5Y _ c5Y rY A7Y _ c7Y A8Y c8Y cY vY w B hB h8 h8Y h8' h8'Y hns hnsY b4 b4Y (by simpa [build, goodV] using gt) (by simpa [build, goodV] using gu) ihv _ rfl
      · have hg : (0 ≤ v ∧ v ≤ 1000) ∧ goodsV (builds vs) := by simpa [build, goodV] using gt
        have hgY : (0 ≤ vY ∧ vY ≤ 1000) ∧ goodsV (builds vsY) := by simpa [build, goodV] using gu
        have e : cmpV (build (.mk 10 b i f s bs r l ns vs c v)) (build (.mk 10 bY iY fY sY bsY rY lY nsY vsY cY vY)) = if cmpT c cY = 0 then if sgn v vY = 0 then cmpF (builds vs) ns nsY (builds vsY) else sgn v vY else cmpT c cY := by simp [build, cmpV]
        rw [e]
        by_cases h1 : cmpT c cY = 0
        · rw [if_pos h1]
          by_cases h2 : v = vY
          · rw [if_pos (by rw [h2]; exact sgn_self _)]
            exact cmp_10_same vs vsY ns nsY rows8 rows8Y b i f s A5 _ c5 r A7 _ c7 A8 c8 c v bY iY fY sY A5Y _ c5Y rY A7Y _ c7Y A8Y c8Y cY vY w B hB h8 h8Y h8' h8'Y hns hnsY b4 b4Y hg.2 hgY.2 ihv _ rfl _ rfl h1 (by simpa using h2)
          · rw [if_neg (sgn_ne h2)]
            exact cmp_10_ver vs vsY ns nsY rows8 rows8Y b i f s A5 _ c5 r A7 _ c7 A8 c8 c v bY iY fY sY A5Y _ c5Y rY A7Y _ c7Y A8Y c8Y cY vY w B hB h8 h8Y h8' h8'Y hns hnsY b4 b4Y hg.2 hgY.2 ihv _ rfl _ rfl h1 (by simpa using h2) (by rw [IntKind.wrap_u64]; omega) (by rw [IntKind.wrap_u64]; omega)
        · rw [if_neg h1]
          exact cmp_10_class vs vsY ns nsY rows8 rows8Y b i f s A5 _ c5 r A7 _ c7 A8 c8 c v bY iY fY sY A5Y _ c5Y rY A7Y _ c7Y A8Y c8Y cY vY w B hB h8 h8Y h8' h8'Y hns hnsY b4 b4Y hg.2 hgY.2 ihv _ rfl _ rfl (by simpa using h1)
    · rw [cmpV_kinds (by rw [g3, g3Y]; exact hkk), g3, g3Y]
      exact cmp_kinds b i f s A5 _ c5 r A7 _ c7 A8 _ c8 c v bY iY fY sY A5Y _ c5Y rY A7Y _ c7Y A8Y _ c8Y cY vY w k kY (by simpa using hkk) (by rw [IntKind.wrap_u64]; omega) (by rw [IntKind.wrap_u64]; omega)

theorem compare (t : Tm) : CmpAt t := cmp_any _ t (Nat.lt_succ_self _)
end Go.Proofs.Ythanmakakcmkeaa
