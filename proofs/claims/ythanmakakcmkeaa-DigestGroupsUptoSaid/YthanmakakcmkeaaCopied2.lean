/- value.copied whole, Copy; digest.copied. -/
import Derived.Test.YthanmakakcmkeaaCopied
namespace Go.Proofs.Ythanmakakcmkeaa
open Go.RowKit

set_option maxRecDepth 20000 in
set_option maxHeartbeats 1000000 in
theorem copied_dict (ns : List ByteArray) (xs : List V) (ih : ∀ x ∈ xs, CopyAt x) : CopyAt (.dict ns xs) := by
  intro v S w h hg
  obtain ⟨g0, c0, vs, Ss, rfl, hr, hvs, _, hns, hl, hnb⟩ := (by simpa only [VAt] using h)
  obtain ⟨a1, a2, a3, a4, a5, a6, a7, a8, a9⟩ := tas_dict
  have HF := Lib.hid (copiedDict_any ns xs ih g0 c0 vs Ss w hr hvs hns (by simpa only [goodV] using hg) hl)
  have HNB := Lib.hid hnb
  clear h hg hr hvs ih hnb
  go_enter Try.func71, Try.ntmps71
  go_wp2_with (go_at_call 105; refine HF.out.mono ?_; rintro e w1 ⟨g, cap, us, S2, rfl, hrow, hvals, hnd, hnew, hb1⟩)
  go_ret
  refine ⟨_, g :: S2, rfl, ?_, hnd, hnew, hb1⟩
  simp only [VAt]
  exact ⟨g, cap, us, S2, rfl, hrow, hvals, rfl, hns, hl, HNB.out⟩

set_option maxRecDepth 20000 in
set_option maxHeartbeats 4000000 in
theorem copied_recd (c : ByteArray) (r : Int) (ns : List ByteArray) (xs : List V) (ih : ∀ x ∈ xs, CopyAt x) : CopyAt (.recd c r ns xs) := by
  intro v S w h hg
  obtain ⟨p, g0, c0, vs, Ss, rfl, hp, hr, hvs, _, hns, hl, hnb, hcb, hrw⟩ := (by simpa only [VAt] using h)
  obtain ⟨a1, a2, a3, a4, a5, a6, a7, a8, a9⟩ := tas_rec
  have hf := copiedDict_any ns xs ih g0 c0 vs Ss w.drew hr.drew hvs.drew hns (by have := hg; simp only [goodV] at this; exact this.2) hl
  have HF : Hid (∀ W, W = w.drew → Calls Try.prog 105 #[.slice (some ⟨g0, 0, none⟩) xs.length c0] W (NewFields W ns xs)) := Lib.hid fun W hW => by rw [hW]; exact hf
  have HNB := Lib.hid (And.intro hnb (And.intro hcb hrw))
  have x0 : w.cell? ⟨p, 0, none⟩ = some (.string c) := hp.cell 0
  have x1 : w.cell? ⟨p, 1, none⟩ = some (.int .i64 r) := hp.cell 1
  have x2 : w.cell? ⟨p, 2, none⟩ = some (.slice (some ⟨g0, 0, none⟩) xs.length c0) := hp.cell 2
  clear h hg hr hvs ih hnb hcb hrw hp hf
  go_enter Try.func71, Try.ntmps71
  go_wp2_with fail
  refine wp_region_held_drew (S := (fun w' => w'.cell? ⟨p, 0, none⟩ = some (.string c) ∧ w'.cell? ⟨p, 1, none⟩ = some (.int .i64 r) ∧ w'.cell? ⟨p, 2, none⟩ = some (.slice (some ⟨g0, 0, none⟩) xs.length c0))) (by kernel_rfl) (by go_keep) (fun hHeld => ?_)
  refine held_take (i := 0) (v := ?_) rfl (by kernel_rfl) (by kernel_rfl) (by kernel_rfl) (fun _ _ _ h => h) (by kernel_rfl) ?_ hHeld ?_; rotate_left; focus (((intro w hSw; (try dsimp only at hSw); go_simp) <;> with_reducible rfl); done)
  (try simp only [Act.put, List.setIfInBounds_toArray, List.set_cons_zero, List.set_cons_succ])
  refine held_take (i := 1) (v := ?_) rfl (by kernel_rfl) (by kernel_rfl) (by kernel_rfl) (fun _ _ _ h => h) (by kernel_rfl) ?_ hHeld ?_; rotate_left; focus (((intro w hSw; (try dsimp only at hSw); go_simp) <;> with_reducible rfl); done)
  (try simp only [Act.put, List.setIfInBounds_toArray, List.set_cons_zero, List.set_cons_succ])
  refine held_take (i := 2) (v := ?_) rfl (by kernel_rfl) (by kernel_rfl) (by kernel_rfl) (fun _ _ _ h => h) (by kernel_rfl) ?_ hHeld ?_; rotate_left; focus (((intro w hSw; (try dsimp only at hSw); go_simp) <;> with_reducible rfl); done)
  (try simp only [Act.put, List.setIfInBounds_toArray, List.set_cons_zero, List.set_cons_succ])
  refine held_take (i := 3) (v := ?_) rfl (by kernel_rfl) (by kernel_rfl) (by kernel_rfl) (fun _ _ _ h => h) (by kernel_rfl) ?_ hHeld ?_; rotate_left; focus (((intro w hSw; (try dsimp only at hSw); go_simp) <;> with_reducible rfl); done)
  (try simp only [Act.put, List.setIfInBounds_toArray, List.set_cons_zero, List.set_cons_succ])
  refine held_take (i := 4) (v := ?_) rfl (by kernel_rfl) (by kernel_rfl) (by kernel_rfl) (fun _ _ _ h => h) (by kernel_rfl) ?_ hHeld ?_; rotate_left; focus (((intro w hSw; (try dsimp only at hSw); go_simp) <;> with_reducible rfl); done)
  (try simp only [Act.put, List.setIfInBounds_toArray, List.set_cons_zero, List.set_cons_succ])
  refine held_take (i := 5) (v := ?_) rfl (by kernel_rfl) (by kernel_rfl) (by kernel_rfl) (fun _ _ _ h => h) (by kernel_rfl) ?_ hHeld ?_; rotate_left; focus (((intro w hSw; (try dsimp only at hSw); go_simp) <;> with_reducible rfl); done)
  (try simp only [Act.put, List.setIfInBounds_toArray, List.set_cons_zero, List.set_cons_succ])
  refine held_take (i := 6) (v := ?_) rfl (by kernel_rfl) (by kernel_rfl) (by kernel_rfl) (fun _ _ _ h => h) (by kernel_rfl) ?_ hHeld ?_; rotate_left; focus (((intro w hSw; (try dsimp only at hSw); go_simp) <;> with_reducible rfl); done)
  (try simp only [Act.put, List.setIfInBounds_toArray, List.set_cons_zero, List.set_cons_succ])
  refine held_take (i := 7) (v := ?_) rfl (by kernel_rfl) (by kernel_rfl) (by kernel_rfl) (fun _ _ _ h => h) (by kernel_rfl) ?_ hHeld ?_; rotate_left; focus (((intro w hSw; (try dsimp only at hSw); go_simp) <;> with_reducible rfl); done)
  (try simp only [Act.put, List.setIfInBounds_toArray, List.set_cons_zero, List.set_cons_succ])
  refine held_take (i := 8) (v := ?_) rfl (by kernel_rfl) (by kernel_rfl) (by kernel_rfl) (fun _ _ _ h => h) (by kernel_rfl) ?_ hHeld ?_; rotate_left; focus (((intro w hSw; (try dsimp only at hSw); go_simp) <;> with_reducible rfl); done)
  (try simp only [Act.put, List.setIfInBounds_toArray, List.set_cons_zero, List.set_cons_succ])
  refine held_take (i := 9) (v := ?_) rfl (by kernel_rfl) (by kernel_rfl) (by kernel_rfl) (fun _ _ _ h => h) (by kernel_rfl) ?_ hHeld ?_; rotate_left; focus (((intro w hSw; (try dsimp only at hSw); go_simp) <;> with_reducible rfl); done)
  (try simp only [Act.put, List.setIfInBounds_toArray, List.set_cons_zero, List.set_cons_succ])
  refine held_take (i := 10) (v := ?_) rfl (by kernel_rfl) (by kernel_rfl) (by kernel_rfl) (fun _ _ _ h => h) (by kernel_rfl) ?_ hHeld ?_; rotate_left; focus (((intro w hSw; (try dsimp only at hSw); go_simp) <;> with_reducible rfl); done)
  (try simp only [Act.put, List.setIfInBounds_toArray, List.set_cons_zero, List.set_cons_succ])
  refine held_take (i := 11) (v := ?_) rfl (by kernel_rfl) (by kernel_rfl) (by kernel_rfl) (fun _ _ _ h => h) (by kernel_rfl) ?_ hHeld ?_; rotate_left; focus (((intro w hSw; (try dsimp only at hSw); go_simp) <;> with_reducible rfl); done)
  (try simp only [Act.put, List.setIfInBounds_toArray, List.set_cons_zero, List.set_cons_succ])
  refine held_call (i := 12) rfl (by kernel_rfl) (by kernel_rfl) (fun K hK => ?_)
  go_simp
  (refine (HF.out _ rfl).mono ?_; rintro e w1 ⟨g, cap, us, S2, rfl, hrow, hvals, hnd, hnew, hb1⟩)
  refine hK.out _ _ ?_ (fun hHeld2 => ?_)
  · exact ⟨cell_below hb1 hHeld.1, cell_below hb1 hHeld.2.1, cell_below hb1 hHeld.2.2⟩
  clear hK K hHeld
  have hHeld := hHeld2
  clear hHeld2
  (try simp only [Act.put, List.setIfInBounds_toArray, List.set_cons_zero, List.set_cons_succ])
  refine held_take (i := 13) (v := ?_) rfl (by kernel_rfl) (by kernel_rfl) (by kernel_rfl) (fun _ _ _ h => h) (by kernel_rfl) ?_ hHeld ?_; rotate_left; focus (((intro w hSw; (try dsimp only at hSw); go_simp) <;> with_reducible rfl); done)
  (try simp only [Act.put, List.setIfInBounds_toArray, List.set_cons_zero, List.set_cons_succ])
  refine held_call (i := 14) rfl (by kernel_rfl) (by kernel_rfl) (fun K hK => ?_)
  go_simp
  skip
  refine hK.out _ _ ?_ (fun hHeld2 => ?_)
  · exact ⟨cell_alloc _ hHeld.1, cell_alloc _ hHeld.2.1, cell_alloc _ hHeld.2.2⟩
  clear hK K hHeld
  have hHeld := hHeld2
  clear hHeld2
  (try simp only [Act.put, List.setIfInBounds_toArray, List.set_cons_zero, List.set_cons_succ])
  refine held_call (i := 15) rfl (by kernel_rfl) (by kernel_rfl) (fun K hK => ?_)
  go_simp
  skip
  refine hK.out _ _ ?_ (fun hHeld2 => ?_)
  · exact hHeld
  clear hK K hHeld
  have hHeld := hHeld2
  clear hHeld2
  (try simp only [Act.put, List.setIfInBounds_toArray, List.set_cons_zero, List.set_cons_succ])
  refine held_take (i := 16) (v := ?_) rfl (by kernel_rfl) (by kernel_rfl) (by kernel_rfl) (fun _ _ _ h => h) (by kernel_rfl) ?_ hHeld ?_; rotate_left; focus (((intro w hSw; (try dsimp only at hSw); go_simp) <;> with_reducible rfl); done)
  (try simp only [Act.put, List.setIfInBounds_toArray, List.set_cons_zero, List.set_cons_succ])
  refine wpAnyH_done (by kernel_rfl) ?_ _
  go_wp2
  go_ret
  have hbw : Below w.heap.size w w1 := below_undrew hb1
  have hnd1 := List.nodup_cons.1 hnd
  refine ⟨_, w1.heap.size :: g :: S2, rfl, ?_, List.nodup_cons.2 ⟨?_, hnd⟩, ?_, hbw.alloc hbw.size _⟩
  · simp only [VAt]
    exact ⟨w1.heap.size, g, cap, us, S2, rfl, Blk.new _ _ _, hrow.alloc _, hvals.below ((Below.refl _ _).alloc (Nat.le_refl _) _), rfl, hns, hl, HNB.out.1, HNB.out.2.1, HNB.out.2.2⟩
  · intro hm
    rcases List.mem_cons.1 hm with hm | hm
    · have := hrow.lt; omega
    · have := VsAt.lt xs hvals _ hm; omega
  · intro b hm
    rcases List.mem_cons.1 hm with rfl | hm
    · exact hbw.size
    · exact hnew b hm

theorem copied_all : ∀ (k : Nat) (x : V), SizeOf.sizeOf x < k → CopyAt x := by
  intro k
  induction k with
  | zero => intro x hx; omega
  | succ k ihk =>
    intro x hk
    cases x with
    | nil => exact copied_nil
    | bool b => exact copied_bool b
    | int b => exact copied_int b
    | float b => exact copied_float b
    | text b => exact copied_text b
    | bytes b => exact copied_bytes b
    | ref b => exact copied_ref b
    | list xs => exact copied_list xs (fun t ht => ihk t (by have := List.sizeOf_lt_of_mem ht; simp at hk; omega))
    | dict ns xs => exact copied_dict ns xs (fun t ht => ihk t (by have := List.sizeOf_lt_of_mem ht; simp at hk; omega))
    | recd c r ns xs => exact copied_recd c r ns xs (fun t ht => ihk t (by have := List.sizeOf_lt_of_mem ht; simp at hk; omega))
    | nothing => intro v S w h hg; exact absurd hg (by simp [goodV])
    | alien => intro v S w h hg; exact absurd hg (by simp [goodV])
theorem copied (x : V) : CopyAt x := copied_all _ x (Nat.lt_succ_self _)
end Go.Proofs.Ythanmakakcmkeaa
