/- tenonref01.Name. -/
import Derived.Test.YthanmakakcmkeaaPart
namespace Go.Proofs.Ythanmakakcmkeaa
open Go.RowKit

theorem idxk (s : ByteArray) (k : Nat) (hk : k < s.data.toList.length) (w : World) : (Instr.index 9 (.string s) (.int .i64 k)).run Try.prog w = .ok (.int .u8 (s.data.toList[k]).toNat) w := by
  have h1 : k < s.size := by rw [← ByteArray.size_data, ← Array.length_toList]; exact hk
  have e : s[k].toNat = s.data[k].toNat := rfl
  simp [Instr.index, run_underlying Try.underlying9, asIntOf, h1, e]

/-- a byte that may stand at place i of a name -/
def goodC (i : Nat) (c : UInt8) : Bool := lowerC c.toNat || (decide (0 < i) && nameC c.toNat)
theorem nameL_iff (l : List UInt8) : nameL l = true ↔ 0 < l.length ∧ l.length ≤ 32 ∧ ∀ i (h : i < l.length), goodC i l[i] = true := by
  cases l with
  | nil => simp [nameL]
  | cons c l =>
    simp only [nameL, Bool.and_eq_true, decide_eq_true_eq, List.all_eq_true, List.length_cons]
    constructor
    · rintro ⟨⟨h1, h2⟩, h3⟩
      refine ⟨by omega, by omega, fun i hi => ?_⟩
      cases i with
      | zero => simp [goodC, h2]
      | succ i => simp only [List.getElem_cons_succ, goodC, Nat.zero_lt_succ, decide_true, Bool.true_and]; rw [h3 _ (List.getElem_mem _)]; simp
    · rintro ⟨_, h1, h2⟩
      refine ⟨⟨by omega, by have := h2 0 (by omega); simpa [goodC] using this⟩, fun x hx => ?_⟩
      obtain ⟨i, hi, rfl⟩ := List.getElem_of_mem hx
      have := h2 (i + 1) (by simpa using hi)
      simp only [List.getElem_cons_succ, goodC, Nat.zero_lt_succ, decide_true, Bool.true_and, Bool.or_eq_true] at this
      rcases this with h | h
      · simp only [nameC, h, Bool.true_or]
      · exact h

theorem rname_out (s : ByteArray) (w : World) (h : decide ((s.size : Int) < 1) = true ∨ decide ((s.size : Int) < 1) = false ∧ decide (32 < (s.size : Int)) = true) : Calls Try.prog 106 #[.string s] w (fun e w' => e = .returned (.bool false) ∧ w' = w) := by
  rcases h with h1 | ⟨h1, h2⟩
  all_goals
    go_enter Try.func106, Try.ntmps106
    go_wp2
    go_ret
    exact ⟨rfl, rfl⟩

set_option maxRecDepth 20000 in
set_option maxHeartbeats 2000000 in
theorem rname_loop (s : ByteArray) (w : World) (h1 : decide ((s.size : Int) < 1) = false) (h2 : decide (32 < (s.size : Int)) = false) (r : Bool) (hr : nameOk s = r) : Calls Try.prog 106 #[.string s] w (fun e w' => e = .returned (.bool r) ∧ w' = w) := by
  have HR := Lib.hid hr
  have hn : s.size = s.data.toList.length := by rw [Array.length_toList, ByteArray.size_data]
  have HN := Lib.hid hn
  have g1 := of_decide_eq_false h1
  have g2 := of_decide_eq_false h2
  clear hr hn
  go_enter Try.func106, Try.ntmps106
  go_wp2
  clear h1 h2
  go_loop [3, 4] (fun v v4 => ∃ k : Nat, k ≤ s.size ∧ v = .int .i64 k ∧ ∀ i (h : i < s.data.toList.length), i < k → goodC i (s.data.toList[i]) = true) (fun v _ => s.size - (intOf v).toNat)
  case atStart => exact ⟨0, by omega, rfl, fun i _ h => by omega⟩
  case round =>
    obtain ⟨k, hk, rfl, hall⟩ := hrel
    have HA := Lib.hid hall
    clear hall
    by_cases hlt : k < s.size
    · have hkl : k < s.data.toList.length := by rw [← HN.out]; exact hlt
      have hi := idxk s k hkl
      obtain ⟨x, hx⟩ : ∃ x : Int, x = (s.data.toList[k]).toNat := ⟨_, rfl⟩
      have hx0 : 0 ≤ x := by rw [hx]; omega
      have hx1 : x ≤ 255 := by rw [hx]; have := (s.data.toList[k]).toNat_lt; omega
      rw [← hx] at hi
      have HX := Lib.hid hx
      have good : goodC k (s.data.toList[k]) = true → ∀ i (h : i < s.data.toList.length), i < k + 1 → goodC i (s.data.toList[i]) = true := fun hg i h hi => by
        by_cases e : i = k
        · subst e; exact hg
        · exact HA.out i h (by omega)
      have bad : goodC k (s.data.toList[k]) = false → nameOk s = false := fun hg => by
        rw [Bool.eq_false_iff]; intro hc
        rw [nameOk, nameL_iff] at hc
        have := hc.2.2 k hkl
        rw [hg] at this; cases this
      have GOOD := Lib.hid good
      have BAD := Lib.hid bad
      clear good bad hx
      generalize s.data.toList[k] = c at HX GOOD BAD
      clear hkl
      have hk0 : (0 : Int) ≤ (k : Int) := Int.natCast_nonneg _
      have hlt' : (k : Int) < (s.size : Int) := by omega
      by_cases hk00 : k = 0
      · subst hk00
        have e0 : ((0 : Nat) : Int) = 0 := rfl
        simp only [e0] at hi hk0 hlt' ⊢
        by_cases q0 : 97 ≤ x ∧ x ≤ 122
        · have b0 : decide (97 ≤ x) = true := by simp; omega
          have b1 : decide (x ≤ 122) = true := by simp; omega
          go_wp2
          go_round
          case rel => exact ⟨0 + 1, by omega, by go_num, GOOD.out (by have := HX.out; simp [goodC, nameC, lowerC]; omega)⟩
          case measure => simp [intOf]; omega
        by_cases qa : x < 97
        · skip
          have b0 : decide (97 ≤ x) = false := by simp; omega
          go_wp2
          go_ret
          exact ⟨by rw [← HR.out, BAD.out (by have := HX.out; simp [goodC, nameC, lowerC]; omega)]; rfl, rfl⟩
        by_cases qb : 122 < x
        · skip
          have b0 : decide (97 ≤ x) = true := by simp; omega
          have b1 : decide (x ≤ 122) = false := by simp; omega
          go_wp2
          go_ret
          exact ⟨by rw [← HR.out, BAD.out (by have := HX.out; simp [goodC, nameC, lowerC]; omega)]; rfl, rfl⟩
        omega
      · skip
        by_cases q0 : 97 ≤ x ∧ x ≤ 122
        · have bk : ((k : Int) == 0) = false := by simp; omega
          have b0 : decide (97 ≤ x) = true := by simp; omega
          have b1 : decide (x ≤ 122) = true := by simp; omega
          go_wp2
          go_round
          case rel => exact ⟨k + 1, by omega, by go_num, GOOD.out (by have := HX.out; simp [goodC, nameC, lowerC]; omega)⟩
          case measure => simp [intOf]; omega
        by_cases qa : x < 97
        · skip
          by_cases q3 : x = 95
          · have b0 : decide (97 ≤ x) = false := by simp; omega
            have bk : ((k : Int) == 0) = false := by simp; omega
            have b4 : (x != 95) = false := by simp; omega
            go_wp2
            go_round
            case rel => exact ⟨k + 1, by omega, by go_num, GOOD.out (by have := HX.out; simp [goodC, nameC, lowerC]; omega)⟩
            case measure => simp [intOf]; omega
          by_cases q4 : x < 48
          · have b0 : decide (97 ≤ x) = false := by simp; omega
            have bk : ((k : Int) == 0) = false := by simp; omega
            have b4 : (x != 95) = true := by simp; omega
            have b2 : decide (x < 48) = true := by simp; omega
            go_wp2
            go_ret
            exact ⟨by rw [← HR.out, BAD.out (by have := HX.out; simp [goodC, nameC, lowerC]; omega)]; rfl, rfl⟩
          by_cases q5 : 57 < x
          · have b0 : decide (97 ≤ x) = false := by simp; omega
            have bk : ((k : Int) == 0) = false := by simp; omega
            have b4 : (x != 95) = true := by simp; omega
            have b2 : decide (x < 48) = false := by simp; omega
            have b3 : decide (57 < x) = true := by simp; omega
            go_wp2
            go_ret
            exact ⟨by rw [← HR.out, BAD.out (by have := HX.out; simp [goodC, nameC, lowerC]; omega)]; rfl, rfl⟩
          have b0 : decide (97 ≤ x) = false := by simp; omega
          have bk : ((k : Int) == 0) = false := by simp; omega
          have b4 : (x != 95) = true := by simp; omega
          have b2 : decide (x < 48) = false := by simp; omega
          have b3 : decide (57 < x) = false := by simp; omega
          go_wp2
          go_round
          case rel => exact ⟨k + 1, by omega, by go_num, GOOD.out (by have := HX.out; simp [goodC, nameC, lowerC]; omega)⟩
          case measure => simp [intOf]; omega
        by_cases qb : 122 < x
        · skip
          have b0 : decide (97 ≤ x) = true := by simp; omega
          have b1 : decide (x ≤ 122) = false := by simp; omega
          have bk : ((k : Int) == 0) = false := by simp; omega
          have b4 : (x != 95) = true := by simp; omega
          have b2 : decide (x < 48) = false := by simp; omega
          have b3 : decide (57 < x) = true := by simp; omega
          go_wp2
          go_ret
          exact ⟨by rw [← HR.out, BAD.out (by have := HX.out; simp [goodC, nameC, lowerC]; omega)]; rfl, rfl⟩
        omega
    · obtain rfl : k = s.size := by omega
      go_wp2
      go_ret
      have hok : nameOk s = true := by
        rw [nameOk, nameL_iff]
        have := HN.out
        exact ⟨by omega, by omega, fun i h => HA.out i h (by omega)⟩
      exact ⟨by rw [← HR.out, hok]; rfl, rfl⟩

theorem rname_any (s : ByteArray) (w : World) : Calls Try.prog 106 #[.string s] w (fun e w' => e = .returned (.bool (nameOk s)) ∧ w' = w) := by
  have hn : s.size = s.data.toList.length := by rw [Array.length_toList, ByteArray.size_data]
  by_cases h : (s.size : Int) < 1 ∨ 32 < (s.size : Int)
  · have hb : nameOk s = false := by
      rw [Bool.eq_false_iff]; intro hc
      rw [nameOk, nameL_iff] at hc
      omega
    rw [hb]
    refine rname_out s w ?_
    by_cases h1 : (s.size : Int) < 1
    · exact Or.inl (by simp; omega)
    · exact Or.inr ⟨by simp; omega, by simp; omega⟩
  · exact rname_loop s w (by simp; omega) (by simp; omega) _ rfl
end Go.Proofs.Ythanmakakcmkeaa
