/- slices.BinarySearchFunc over counts. -/
import Derived.Test.YthanmakakcmkeaaRows2
import Derived.Test.YthanmakakcmkeaaOrd
namespace Go.Proofs.Ythanmakakcmkeaa
open Go.RowKit

/-- what lies at place k of a row of counts, and how the function that is handed in orders it -/
def Asked (w : World) (cs : List Value) (n : Nat) (u : Value) (f : Nat → Int) : Prop := ∀ k, k < n → ∃ (v : Value) (c : Int), cs[k * 2]? = some v ∧ cs[k * 2 + 1]? = some (.int .i64 c) ∧ ∀ W, Below w.heap.size w W → Calls Try.prog 32 #[.agg #[v, .int .i64 c], u] W (Gives (f k) W)

set_option maxRecDepth 20000 in
set_option maxHeartbeats 4000000 in
theorem bin_any (A : Option Addr) (n cap : Nat) (cs : List Value) (u : Value) (w : World) (h : RowN w 41 2 A cap n cs) (hn : n ≤ 1048576) (f : Nat → Int) (ha : Asked w cs n u f) (p : Nat) (hp : p ≤ n) (hlo : ∀ k, k < p → f k < 0) (hhi : ∀ k, p ≤ k → k < n → 0 ≤ f k)
    (q : Bool) (hq : (decide (p < n) && decide (f p = 0)) = q) :
    Calls Try.prog 31 #[.slice A n cap, u, .func (.func 32) #[] #[]] w (fun e w' => e = .returned (.tuple #[.int .i64 p, .bool q]) ∧ Below w.heap.size w w') := by
  have HRow := Lib.hid h
  have HA := Lib.hid ha
  have HLO := Lib.hid hlo
  have HHI := Lib.hid hhi
  have HQ := Lib.hid hq
  clear h ha hlo hhi hq
  go_enter Try.func31, Try.ntmps31
  go_wp2
  go_loopw [9, 10] (fun v9 v10 wr => ∃ lo hi : Nat, lo ≤ p ∧ p ≤ hi ∧ hi ≤ n ∧ v9 = .int .i64 lo ∧ v10 = .int .i64 hi ∧ Below w.heap.size w wr) (fun v9 v10 _ => (intOf v10 - intOf v9).toNat)
  case atStart => exact ⟨0, n, Nat.zero_le _, hp, Nat.le_refl _, rfl, rfl, Below.refl _ _⟩
  case round =>
    obtain ⟨lo, hi, h1, h2, h3, rfl, rfl, hbl⟩ := hrel
    have HBL := Lib.hid hbl
    have hws := hbl.size
    clear hbl
    by_cases hlt : lo < hi
    · have hlt' : (lo : Int) < (hi : Int) := by omega
      have hm1 : lo ≤ (lo + hi) / 2 := by omega
      have hm2 : (lo + hi) / 2 < hi := by omega
      have hm3 : ((lo : Int) + (hi : Int)) / 2 < (n : Int) := by omega
      have hm4 : (0 : Int) ≤ ((lo : Int) + (hi : Int)) / 2 := by omega
      have hm5 : (((lo : Int) + (hi : Int)) / 2).toNat = (lo + hi) / 2 := by omega
      obtain ⟨v, c, hv, hc, hcall⟩ := HA.out ((lo + hi) / 2) (by omega)
      obtain ⟨g, rfl, hrow⟩ : ∃ g, A = some ⟨g, 0, none⟩ ∧ Row w 41 2 g cap n cs := by
        rcases HRow.out with ⟨_, _, hz, _⟩ | h
        · omega
        · exact h
      have hr2 := hrow.below HBL.out
      have hc0 : wr.cell? ⟨g, (lo + hi) / 2 * 2, none⟩ = some v := by rw [hr2.cell _ (by omega), hv]
      have hc1 : wr.cell? ⟨g, (lo + hi) / 2 * 2 + 1, none⟩ = some (.int .i64 c) := by rw [hr2.cell _ (by omega), hc]
      have HC := Lib.hid hcall
      clear hv hc hcall hrow hr2
      generalize hfm : f ((lo + hi) / 2) = fm at HC
      have HFM := Lib.hid hfm
      clear hfm
      by_cases hneg : fm < 0
      · have hnb : decide (fm < 0) = true := by simpa using hneg
        have hpm : (lo + hi) / 2 < p := by
          rcases Nat.lt_or_ge ((lo + hi) / 2) p with h | h
          · exact h
          · have := HHI.out _ h (by omega); have := HFM.out; omega
        go_wp2_with (go_at_call 32; refine (HC.out _ HBL.out).mono ?_; rintro e w1 ⟨rfl, hb1⟩)
        go_roundw
        case rel => exact ⟨(lo + hi) / 2 + 1, hi, by omega, h2, h3, by go_num, rfl, HBL.out.trans (hb1.mono hws)⟩
        case measure => simp [intOf]; omega
      · have hnb : decide (fm < 0) = false := by simpa using hneg
        have hpm : p ≤ (lo + hi) / 2 := by
          rcases Nat.lt_or_ge ((lo + hi) / 2) p with h | h
          · have := HLO.out _ h; have := HFM.out; omega
          · exact h
        go_wp2_with (go_at_call 32; refine (HC.out _ HBL.out).mono ?_; rintro e w1 ⟨rfl, hb1⟩)
        go_roundw
        case rel => exact ⟨lo, (lo + hi) / 2, h1, hpm, by omega, rfl, by go_num, HBL.out.trans (hb1.mono hws)⟩
        case measure => simp [intOf]; omega
    · obtain rfl : lo = p := by omega
      by_cases hpn : lo < n
      · have hp1 : (lo : Int) < (n : Int) := by omega
        have hd1 : decide ((lo : Int) < (n : Int)) = true := by simp; omega
        have hp2 : (0 : Int) ≤ (lo : Int) := by omega
        obtain ⟨v, c, hv, hc, hcall⟩ := HA.out lo hpn
        obtain ⟨g, rfl, hrow⟩ : ∃ g, A = some ⟨g, 0, none⟩ ∧ Row w 41 2 g cap n cs := by
          rcases HRow.out with ⟨_, _, hz, _⟩ | h
          · omega
          · exact h
        have hr2 := hrow.below HBL.out
        have hgw : g < wr.heap.size := hr2.lt
        have hc0 : wr.cell? ⟨g, lo * 2, none⟩ = some v := by rw [hr2.cell _ (by omega), hv]
        have hc1 : wr.cell? ⟨g, lo * 2 + 1, none⟩ = some (.int .i64 c) := by rw [hr2.cell _ (by omega), hc]
        have HC := Lib.hid hcall
        clear hv hc hcall hrow hr2
        generalize hfm : f lo = fm at HC
        have HFM := Lib.hid hfm
        clear hfm
        cases hz : (fm == 0)
        all_goals
          have HZ := Lib.hid hz
          go_wp2_with (go_at_call 32; refine (HC.out _ HBL.out).mono ?_; rintro e w1 ⟨rfl, hb1⟩)
          go_ret2
          refine ⟨?_, HBL.out.trans (hb1.mono hws)⟩
          rw [← HQ.out, HFM.out]
          have hz' := HZ.out
          simp only [beq_iff_eq, beq_eq_false_iff_ne, ne_eq] at hz'
          simp [hpn, hz']
      · have hd1 : decide ((lo : Int) < (n : Int)) = false := by simp; omega
        go_wp2_with fail
        go_ret2
        refine ⟨?_, HBL.out⟩
        rw [← HQ.out]
        simp [hpn]
end Go.Proofs.Ythanmakakcmkeaa
