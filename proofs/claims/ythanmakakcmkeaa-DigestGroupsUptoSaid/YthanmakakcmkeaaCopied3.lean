/- value.Copy, digest.copied. -/
import Derived.Test.YthanmakakcmkeaaCopied2
namespace Go.Proofs.Ythanmakakcmkeaa
open Go.RowKit

def NewP (w : World) (x : V) (c : Int) (e : Ending) (w' : World) : Prop := ∃ v S, e = .returned (.tuple #[v, .int .i64 c]) ∧ VAt w' x v S ∧ S.Nodup ∧ (∀ b ∈ S, w.heap.size ≤ b) ∧ Below w.heap.size w w'

theorem vCopy_good (x : V) (v : Value) (S : List Nat) (w : World) (h : VAt w x v S) (hc : (checkV x).2 = 0) : Calls Try.prog 53 #[v] w (NewP w x 0) := by
  have hk := check_any x v S w h
  rw [check_zero hc] at hk
  have hcp : ∀ w', Below w.heap.size w w' → Calls Try.prog 71 #[v] w' (NewV w' x) := fun w' hb => copied x v S w' (h.below hb) (check_good hc)
  have HK := Lib.hid hk
  have hfx := h.form
  by_cases hn : x = .nil
  · have HC : Hid (∀ w', Below w.heap.size w w' → Calls Try.prog 71 #[v] w' (NewN w')) := Lib.hid fun w' hb => (hcp w' hb).mono fun e w'' h => NewV.none (hn ▸ h)
    subst hn
    clear hk hcp h hc
    rcases hfx with rfl | ⟨T, v, rfl⟩
    all_goals
      go_enter Try.func53, Try.ntmps53
      go_wp2_with (first | (go_at_call 49; refine HK.out.mono ?_; rintro e w1 ⟨rfl, hb1⟩) | (go_at_call 71; refine (HC.out _ hb1).mono ?_; rintro e w2 ⟨rfl, hb2⟩))
      go_ret2
      exact ⟨.nilIface, [], rfl, by simp [VAt], by simp, by simp, hb1.trans (hb2.mono hb1.size)⟩
  · have HC : Hid (∀ w', Below w.heap.size w w' → Calls Try.prog 71 #[v] w' (NewI w' x)) := Lib.hid fun w' hb => (hcp w' hb).mono fun e w'' h => NewV.iface hn h
    clear hk hcp h hc hn
    rcases hfx with rfl | ⟨T, v, rfl⟩
    all_goals
      go_enter Try.func53, Try.ntmps53
      go_wp2_with (first | (go_at_call 49; refine HK.out.mono ?_; rintro e w1 ⟨rfl, hb1⟩) | (go_at_call 71; refine (HC.out _ hb1).mono ?_; rintro e w2 ⟨T2, u2, S2, rfl, hv2, hnd2, hnew2, hb2⟩))
      go_ret2
      exact ⟨.iface T2 u2, S2, rfl, hv2, hnd2, fun b hm => Nat.le_trans hb1.size (hnew2 b hm), hb1.trans (hb2.mono hb1.size)⟩

theorem vCopy_bad (x : V) (v : Value) (S : List Nat) (w : World) (h : VAt w x v S) (hc : (checkV x).2 ≠ 0) : Calls Try.prog 53 #[v] w (NewP w .nil (checkV x).2) := by
  have hk := check_any x v S w h
  generalize checkV x = p at hk hc ⊢
  obtain ⟨a, c⟩ := p
  have hb0 : (c != 0) = true := by simpa using hc
  have HK := Lib.hid hk
  have hfx := h.form
  clear hk h hc
  rcases hfx with rfl | ⟨T, v, rfl⟩
  all_goals
    go_enter Try.func53, Try.ntmps53
    go_wp2_with (first | (go_at_call 49; refine HK.out.mono ?_; rintro e w1 ⟨rfl, hb1⟩))
    go_ret2
    exact ⟨.nilIface, [], rfl, by simp [VAt], by simp, by simp, hb1⟩

/-- what digest.copied makes -/
def copyD (x : V) : V := if (checkV x).2 = 0 then x else .nil
theorem vCopy_any (x : V) (v : Value) (S : List Nat) (w : World) (h : VAt w x v S) : Calls Try.prog 53 #[v] w (NewP w (copyD x) (checkV x).2) := by
  unfold copyD
  by_cases hc : (checkV x).2 = 0
  · rw [if_pos hc, hc]; exact vCopy_good x v S w h hc
  · rw [if_neg hc]; exact vCopy_bad x v S w h hc

theorem dcopied_any (x : V) (v : Value) (S : List Nat) (w : World) (h : VAt w x v S) : Calls Try.prog 35 #[v] w (NewV w (copyD x)) := by
  have hk := vCopy_any x v S w h
  generalize (checkV x).2 = c at hk
  generalize copyD x = y at hk ⊢
  have hfx := h.form
  clear h
  by_cases hn : y = .nil
  · subst hn
    have HK : Hid (Calls Try.prog 53 #[v] w (fun e w' => e = .returned (.tuple #[.nilIface, .int .i64 c]) ∧ Below w.heap.size w w')) := Lib.hid (hk.mono fun e w' ⟨u, S2, he, hv, _, _, hb⟩ => by
      obtain ⟨rfl, _⟩ := (by simpa only [VAt] using hv)
      exact ⟨he, hb⟩)
    clear hk
    rcases hfx with rfl | ⟨T, v, rfl⟩
    all_goals
      go_enter Try.func35, Try.ntmps35
      go_wp2_with (first | (go_at_call 53; refine HK.out.mono ?_; rintro e w1 ⟨rfl, hb1⟩))
      go_ret
      exact ⟨.nilIface, [], rfl, by simp [VAt], by simp, by simp, hb1⟩
  · have HK : Hid (Calls Try.prog 53 #[v] w (fun e w' => ∃ T u S2, e = .returned (.tuple #[.iface T u, .int .i64 c]) ∧ VAt w' y (.iface T u) S2 ∧ S2.Nodup ∧ (∀ b ∈ S2, w.heap.size ≤ b) ∧ Below w.heap.size w w')) := Lib.hid (hk.mono fun e w' ⟨u, S2, he, hv, h3⟩ => by
      rcases hv.form with rfl | ⟨T, u, rfl⟩
      · exact absurd hv.isnil hn
      · exact ⟨T, u, S2, he, hv, h3⟩)
    clear hk
    rcases hfx with rfl | ⟨T, v, rfl⟩
    all_goals
      go_enter Try.func35, Try.ntmps35
      go_wp2_with (first | (go_at_call 53; refine HK.out.mono ?_; rintro e w1 ⟨T2, u2, S2, rfl, hv2, hnd2, hnew2, hb1⟩))
      go_ret
      exact ⟨.iface T2 u2, S2, rfl, hv2, hnd2, hnew2, hb1⟩
end Go.Proofs.Ythanmakakcmkeaa
