/- tenonmake.Plain, Is; Spoil. -/
import Derived.Test.YthanmakakcmkeaaPlain
import Derived.Test.YthanmakakcmkeaaOrd
namespace Go.Proofs.Ythanmakakcmkeaa
open Go.RowKit
attribute [local go_sem] run_store_float

theorem all_one {cs : List Value} (h : ∀ v ∈ cs, v.oneCell' = true) : cs.toArray.all (·.oneCell') = true := Array.all_eq_true_iff_forall_mem.2 (fun v hv => h v (by simpa using hv))

set_option maxRecDepth 20000 in
set_option maxHeartbeats 1000000 in
theorem Plain_any (x : V) (v : Value) (S : List Nat) (w : World) (h : VAt w x v S) : Calls Try.prog 26 #[v] w (NewT w (plainT x 0)) := by
  have hB : Below w.heap.size w (w.alloc (.cells #[.int .i64 0, .bool false, .int .i64 0, .float .f64 0, .string { data := #[] }, .slice none 0 0, .int .u64 0, .slice none 0 0, .slice none 0 0, .string { data := #[] }, .int .i64 0] 31)) := (Below.refl _ _).alloc (Nat.le_refl _) _
  have HP : Hid (Blk (w.alloc (.cells #[.int .i64 0, .bool false, .int .i64 0, .float .f64 0, .string { data := #[] }, .slice none 0 0, .int .u64 0, .slice none 0 0, .slice none 0 0, .string { data := #[] }, .int .i64 0] 31)) w.heap.size 31 #[.int .i64 0, .bool false, .int .i64 0, .float .f64 0, .string { data := #[] }, .slice none 0 0, .int .u64 0, .slice none 0 0, .slice none 0 0, .string { data := #[] }, .int .i64 0]) := Lib.hid (Blk.new _ _ _)
  have HC := Lib.hid (plain x v S _ 0 (h.below hB) (by omega) (by omega))
  have HB := Lib.hid hB
  clear h hB
  generalize plainT x 0 = t at HC ⊢
  cases t with | mk tk tb ti tf ts tbs tr tl tns tvs tc tv =>
  go_enter Try.func26, Try.ntmps26
  go_wp2_with (first | (go_at_call 47; refine HC.out.mono ?_; rintro e w1 ⟨r0, r1, r2, r3, r4, r5, r6, r7, r8, r9, r10, rfl, htm, hb1⟩; have hx := htm; simp only [TmG] at hx; obtain ⟨A5, c5, A7, c7, A8, c8, he, _⟩ := hx; simp only [List.cons.injEq, and_true] at he; obtain ⟨rfl, rfl, rfl, rfl, rfl, rfl, rfl, rfl, rfl, rfl, rfl⟩ := he; have HTM := Lib.hid htm; have hp := HP.out.below hb1; obtain ⟨s0, s1, s2, s3, s4, s5, s6, s7, s8, s9, s10⟩ := hp.cells11; obtain ⟨f0, f1, f2, f3, f4, f5, f6, f7, f8, f9, f10⟩ := hp.frees11; have HP2 := Lib.hid hp; clear hp htm))
  refine bodyPost_ret (results_cell_row rfl _ _ w.heap.size 31 _ (0, 0) _ rfl (HP2.out.set11 _ _ _ _ _ _ _ _ _ _ _) Try.underlying31 rfl tm_size) rfl ?_
  have hf2 := fr_set11 (Fr.refl [w.heap.size] w1) (g := w.heap.size) (by simp) (.int .i64 tk) (.bool tb) (.int .i64 ti) (.float .f64 tf) (.string ts) (.slice A5 tbs.length c5) (.int .u64 tr) (.slice A7 tl.length c7) (.slice A8 tvs.length c8) (.string tc) (.int .i64 tv)
  have h1 := HB.out.size
  have h2 := hb1.size
  have h3 := hf2.size
  simp only [World.size_alloc] at h1 h2
  refine ⟨_, _, _, _, _, _, _, _, _, _, _, rfl, TmG.keep (fun b hb => ?_) _ HTM.out, HB.out.trans ((hb1.mono (by simp)).trans (hf2.below _ (by omega) (by simp)))⟩
  simp at hb
  exact ⟨⟨by omega, by omega⟩, fun off => hf2.cells b off (by omega) (by simp; omega)⟩

set_option maxRecDepth 20000 in
set_option maxHeartbeats 1000000 in
theorem is_any (x : V) (t : Tm) (v : Value) (S : List Nat) (q0 q1 q2 q3 q4 q5 q6 q7 q8 q9 q10 : Value) (w : World) (B : Nat) (hB : B ≤ w.heap.size) (h : VAt w x v S) (ht : TmAt w B t [q0, q1, q2, q3, q4, q5, q6, q7, q8, q9, q10]) :
    Calls Try.prog 10 #[v, .agg #[q0, q1, q2, q3, q4, q5, q6, q7, q8, q9, q10]] w (Tells (sameT (plainT x 0) t) w) := by
  have hb0 : Below w.heap.size w (w.alloc (.cells #[q0, q1, q2, q3, q4, q5, q6, q7, q8, q9, q10] 31)) := (Below.refl _ _).alloc (Nat.le_refl _) _
  obtain ⟨c0, c1, c2, c3, c4, c5, c6, c7, c8, c9, c10⟩ := (Blk.new w 31 #[q0, q1, q2, q3, q4, q5, q6, q7, q8, q9, q10]).cells11
  have hc := Plain_any x v S (w.alloc (.cells #[q0, q1, q2, q3, q4, q5, q6, q7, q8, q9, q10] 31)).drew (h.below hb0).drew
  have hz : (w.alloc (.cells #[q0, q1, q2, q3, q4, q5, q6, q7, q8, q9, q10] 31)).heap.size = w.heap.size + 1 := by simp
  generalize plainT x 0 = p at hc ⊢
  have HS : Hid (∀ (W W' : World) (ds : List Value), Below w.heap.size w W → TmAt W W.heap.size p ds → Calls Try.prog 38 #[.agg ds.toArray, .agg #[q0, q1, q2, q3, q4, q5, q6, q7, q8, q9, q10]] W (Tells (sameT p t) W)) := Lib.hid fun W W' ds hW hp =>
    same p t ds _ W W.heap.size (Nat.le_refl _) hp (TmAt.more (Nat.le_trans hB hW.size) t (ht.below hW hB))
  have HX := Lib.hid (And.intro hb0 (And.intro hc hz))
  clear h ht hb0 hc hz
  go_enter Try.func10, Try.ntmps10
  go_wp2_with fail
  generalize hW0 : w.alloc (.cells #[q0, q1, q2, q3, q4, q5, q6, q7, q8, q9, q10] 31) = W0 at HX c0 c1 c2 c3 c4 c5 c6 c7 c8 c9 c10 ⊢
  obtain ⟨hb0, hc, hz⟩ := HX.out
  have HB0 := Lib.hid hb0
  have HC : Hid (∀ V, V = W0.drew → Calls Try.prog 26 #[v] V (NewT V p)) := Lib.hid fun V hV => by rw [hV]; exact hc
  have hWz : w.heap.size < W0.heap.size := by omega
  clear hW0 HX hb0 hc
  refine region_ord 5 [0, 2, 1, 3, 4] (Kept W0.heap.size W0) (by kernel_rfl) (by kernel_rfl) (by kernel_rfl) (Kept.refl _) (fun hHeld => ?_)
  repeat (refine ord_take_free (v := ?_) rfl (by kernel_rfl) rfl (fun _ _ _ h => h) hHeld ?_ ?_; rotate_left; (focus (((intro w hSw; obtain ⟨hk1, hk2⟩ := Kept.cells hSw; clear hSw; go_simp) <;> with_reducible rfl); done)); (try simp only [Act.put, List.setIfInBounds_toArray, List.set_cons_zero, List.set_cons_succ]))
  refine ord_call_free rfl (by kernel_rfl) rfl (fun K hK => ?_)
  go_simp
  (refine (HC.out _ rfl).mono ?_; rintro e w1 ⟨r0, r1, r2, r3, r4, r5, r6, r7, r8, r9, r10, rfl, htm, hb1⟩)
  refine hK.out _ _ ?_ (fun hHeld2 => ?_)
  · exact hHeld.step hb1 (Nat.le_refl _)
  clear hK K hHeld
  have hHeld := hHeld2
  clear hHeld2
  (try simp only [Act.put, List.setIfInBounds_toArray, List.set_cons_zero, List.set_cons_succ])
  repeat (refine ord_take_free (v := ?_) rfl (by kernel_rfl) rfl (fun _ _ _ h => h) hHeld ?_ ?_; rotate_left; (focus (((intro w hSw; obtain ⟨hk1, hk2⟩ := Kept.cells hSw; clear hSw; go_simp) <;> with_reducible rfl); done)); (try simp only [Act.put, List.setIfInBounds_toArray, List.set_cons_zero, List.set_cons_succ]))
  have HT1 := Lib.hid (TmG.toAt (B := w1.heap.size) (fun b hb => hb.2) _ htm)
  have HBB := Lib.hid (HB0.out.trans (hHeld.below.mono (by omega)))
  clear htm
  refine ord_call_free rfl (by kernel_rfl) rfl (fun K hK => ?_)
  go_simp
  (refine (HS.out _ w1 _ HBB.out HT1.out).mono ?_; rintro e w2 ⟨rfl, hb2⟩)
  refine hK.out _ _ ?_ (fun hHeld2 => ?_)
  · exact hHeld.step hb2 (Nat.le_refl _)
  clear hK K hHeld
  have hHeld := hHeld2
  clear hHeld2
  (try simp only [Act.put, List.setIfInBounds_toArray, List.set_cons_zero, List.set_cons_succ])
  repeat (refine ord_take_free (v := ?_) rfl (by kernel_rfl) rfl (fun _ _ _ h => h) hHeld ?_ ?_; rotate_left; (focus (((intro w hSw; obtain ⟨hk1, hk2⟩ := Kept.cells hSw; clear hSw; go_simp) <;> with_reducible rfl); done)); (try simp only [Act.put, List.setIfInBounds_toArray, List.set_cons_zero, List.set_cons_succ]))
  refine ord_done ?_
  go_wp2
  go_ret
  exact ⟨rfl, HB0.out.trans (hHeld.below.mono (by omega))⟩
end Go.Proofs.Ythanmakakcmkeaa
