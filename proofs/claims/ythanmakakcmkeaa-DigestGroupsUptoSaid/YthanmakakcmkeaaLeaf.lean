/- Small comparisons: value.cmp, truth, place; tenonref01's numbers, texts, flag, place; slices.Compare of bytes. -/
import Derived.Test.YthanmakakcmkeaaRpart2
import Derived.Laws.BitsAllLaws
import Derived.Laws.StandIn
namespace Go.Proofs.Ythanmakakcmkeaa
open Go.RowKit

/-- a bool as a number -/
def tr (b : Bool) : Int := if b then 1 else 0
def sgn (a b : Int) : Int := if a < b then -1 else if b < a then 1 else 0
def cmpL : List UInt8 → List UInt8 → Int
  | [], [] => 0
  | [], _ :: _ => -1
  | _ :: _, [] => 1
  | a :: x, b :: y => if a < b then -1 else if b < a then 1 else cmpL x y

theorem cmpL_less : ∀ a b : List UInt8, Op.bytesLess a b = decide (cmpL a b = -1)
  | [], [] => by simp [Op.bytesLess, cmpL]
  | [], _ :: _ => by simp [Op.bytesLess, cmpL]
  | _ :: _, [] => by simp [Op.bytesLess, cmpL]
  | a :: x, b :: y => by
    have ih := cmpL_less x y
    simp only [Op.bytesLess, cmpL, ih]
    by_cases h1 : a < b
    · simp [h1]
    · by_cases h2 : b < a
      · have : ¬ a = b := by rintro rfl; exact h1 h2
        simp [h1, h2, this]
      · have : a = b := UInt8.le_antisymm (UInt8.not_lt.1 h2) (UInt8.not_lt.1 h1)
        subst this
        simp [h1]
theorem cmpL_self : ∀ a : List UInt8, cmpL a a = 0
  | [] => rfl
  | a :: x => by
    have h : ¬ a < a := UInt8.lt_irrefl a
    simp [cmpL, h, cmpL_self x]
theorem cmpL_eq : ∀ a b : List UInt8, cmpL a b = 0 → a = b
  | [], [], _ => rfl
  | [], _ :: _, h => by simp [cmpL] at h
  | _ :: _, [], h => by simp [cmpL] at h
  | a :: x, b :: y, h => by
    simp only [cmpL] at h
    split at h
    · cases h
    · split at h
      · cases h
      · rename_i h1 h2
        rw [UInt8.le_antisymm (UInt8.not_lt.1 h2) (UInt8.not_lt.1 h1), cmpL_eq x y h]
theorem cmpL_anti : ∀ a b : List UInt8, cmpL b a = - cmpL a b
  | [], [] => rfl
  | [], _ :: _ => rfl
  | _ :: _, [] => rfl
  | a :: x, b :: y => by
    simp only [cmpL]
    by_cases h1 : a < b
    · have : ¬ b < a := UInt8.lt_asymm h1
      simp [h1, this]
    · by_cases h2 : b < a
      · simp [h1, h2]
      · simp only [if_neg h1, if_neg h2, cmpL_anti x y]
theorem cmpL_range : ∀ a b : List UInt8, cmpL a b = -1 ∨ cmpL a b = 0 ∨ cmpL a b = 1
  | [], [] => by simp [cmpL]
  | [], _ :: _ => by simp [cmpL]
  | _ :: _, [] => by simp [cmpL]
  | a :: x, b :: y => by
    simp only [cmpL]
    split
    · simp
    · split
      · simp
      · exact cmpL_range x y

def cmpT (a b : ByteArray) : Int := cmpL a.toList b.toList

/-- how the walk tells texts apart -/
theorem cmpT_cases (a b : ByteArray) : (cmpT a b = -1 ∧ Op.bytesLess a.toList b.toList = true) ∨ (cmpT a b = 0 ∧ Op.bytesLess a.toList b.toList = false ∧ (a.toList == b.toList) = true) ∨
    (cmpT a b = 1 ∧ Op.bytesLess a.toList b.toList = false ∧ (a.toList == b.toList) = false) := by
  have h := cmpL_less a.toList b.toList
  have hr := cmpL_range a.toList b.toList
  unfold cmpT
  by_cases he : a.toList = b.toList
  · right; left
    rw [he, cmpL_self] at h
    rw [he, cmpL_self, h]
    exact ⟨rfl, rfl, by simp⟩
  · have hne : cmpL a.toList b.toList ≠ 0 := fun h0 => he (cmpL_eq _ _ h0)
    rcases hr with hr | hr | hr
    · left; rw [h, hr]; exact ⟨rfl, rfl⟩
    · exact absurd hr hne
    · right; right; rw [h, hr]; exact ⟨rfl, rfl, by simpa using he⟩

theorem sgn_cases (a b : Int) : (sgn a b = -1 ∧ decide (a < b) = true) ∨ (sgn a b = 1 ∧ decide (a < b) = false ∧ decide (b < a) = true) ∨ (sgn a b = 0 ∧ decide (a < b) = false ∧ decide (b < a) = false) := by
  unfold sgn
  by_cases h : a < b
  · left; simp [h]
  · by_cases h2 : b < a
    · right; left; simp [h, h2]
    · right; right; simp [h, h2]

theorem vcmpInt_any (a b : Int) (w : World) : Calls Try.prog 92 #[.int .i64 a, .int .i64 b] w (fun e w' => e = .returned (.int .i64 (sgn a b)) ∧ w' = w) := by
  rcases sgn_cases a b with ⟨h, h1⟩ | ⟨h, h1, h2⟩ | ⟨h, h1, h2⟩
  all_goals
    rw [h]
    clear h
    go_enter Try.func92, Try.ntmps92
    go_wp2
    go_ret
    exact ⟨rfl, rfl⟩

theorem vcmpInt64_any (a b : Int) (w : World) : Calls Try.prog 95 #[.int .i64 a, .int .i64 b] w (fun e w' => e = .returned (.int .i64 (sgn a b)) ∧ w' = w) := by
  rcases sgn_cases a b with ⟨h, h1⟩ | ⟨h, h1, h2⟩ | ⟨h, h1, h2⟩
  all_goals
    rw [h]
    clear h
    go_enter Try.func95, Try.ntmps95
    go_wp2
    go_ret
    exact ⟨rfl, rfl⟩

theorem vcmpU64_any (a b : Int) (w : World) : Calls Try.prog 96 #[.int .u64 a, .int .u64 b] w (fun e w' => e = .returned (.int .i64 (sgn a b)) ∧ w' = w) := by
  rcases sgn_cases a b with ⟨h, h1⟩ | ⟨h, h1, h2⟩ | ⟨h, h1, h2⟩
  all_goals
    rw [h]
    clear h
    go_enter Try.func96, Try.ntmps96
    go_wp2
    go_ret
    exact ⟨rfl, rfl⟩

theorem vcmpRef_any (a b : Int) (w : World) : Calls Try.prog 100 #[.int .u64 a, .int .u64 b] w (fun e w' => e = .returned (.int .i64 (sgn a b)) ∧ w' = w) := by
  rcases sgn_cases a b with ⟨h, h1⟩ | ⟨h, h1, h2⟩ | ⟨h, h1, h2⟩
  all_goals
    rw [h]
    clear h
    go_enter Try.func100, Try.ntmps100
    go_wp2
    go_ret
    exact ⟨rfl, rfl⟩

theorem rnumbers_any (a b : Int) (w : World) : Calls Try.prog 55 #[.int .u64 a, .int .u64 b] w (fun e w' => e = .returned (.int .i64 (sgn a b)) ∧ w' = w) := by
  rcases sgn_cases a b with ⟨h, h1⟩ | ⟨h, h1, h2⟩ | ⟨h, h1, h2⟩
  all_goals
    rw [h]
    clear h
    go_enter Try.func55, Try.ntmps55
    go_wp2
    go_ret
    exact ⟨rfl, rfl⟩

theorem vcmpString_any (a b : ByteArray) (w : World) : Calls Try.prog 98 #[.string a, .string b] w (fun e w' => e = .returned (.int .i64 (cmpT a b)) ∧ w' = w) := by
  rcases cmpT_cases a b with ⟨h, h1⟩ | ⟨h, h1, h2⟩ | ⟨h, h1, h2⟩
  all_goals
    rw [h]
    clear h
    go_enter Try.func98, Try.ntmps98
    go_wp2
    go_ret
    exact ⟨rfl, rfl⟩

theorem rtexts_any (a b : ByteArray) (w : World) : Calls Try.prog 58 #[.string a, .string b] w (fun e w' => e = .returned (.int .i64 (cmpT a b)) ∧ w' = w) := by
  rcases cmpT_cases a b with ⟨h, h1⟩ | ⟨h, h1, h2⟩ | ⟨h, h1, h2⟩
  all_goals
    rw [h]
    clear h
    go_enter Try.func58, Try.ntmps58
    go_wp2
    go_ret
    exact ⟨rfl, rfl⟩

theorem vtruth_any (b : Bool) (w : World) : Calls Try.prog 94 #[.bool b] w (fun e w' => e = .returned (.int .i64 (tr b)) ∧ w' = w) := by
  cases b
  all_goals
    simp only [tr, if_true, Bool.false_eq_true, if_false]
    go_enter Try.func94, Try.ntmps94
    go_wp2
    go_ret
    exact ⟨rfl, rfl⟩

theorem rflag_any (b : Bool) (w : World) : Calls Try.prog 56 #[.bool b] w (fun e w' => e = .returned (.int .u64 (tr b)) ∧ w' = w) := by
  cases b
  all_goals
    simp only [tr, if_true, Bool.false_eq_true, if_false]
    go_enter Try.func56, Try.ntmps56
    go_wp2
    go_ret
    exact ⟨rfl, rfl⟩

/-- where a float stands -/
def placeF (f : Nat) : Int := if 9223372036854775808 ≤ f then 18446744073709551615 - (f : Int) else (f : Int) + 9223372036854775808

theorem run_geq (f : Nat) (b : Bool) (h : decide (9223372036854775808 ≤ f) = b) (w : World) : (binOp .geq 27 (.int .u64 f) (.int .u64 9223372036854775808)).run Try.prog w = .ok (.bool b) w := by
  rw [← h]
  simp [go_sem]
  omega
theorem not64 (f : Nat) (h : f < 18446744073709551616) : 18446744073709551615 ^^^ f = 18446744073709551615 - f := by
  apply Nat.eq_of_testBit_eq
  intro i
  have e : (18446744073709551615 : Nat) = 2 ^ 64 - 1 := by decide
  have e2 : 18446744073709551615 - f = 2 ^ 64 - (f + 1) := by omega
  rw [Nat.testBit_xor, e2, Nat.testBit_two_pow_sub_succ (by omega), e, Nat.testBit_two_pow_sub_one]
  by_cases hi : i < 64
  · simp [hi]
  · have : f.testBit i = false := Nat.testBit_lt_two_pow (Nat.lt_of_lt_of_le (show f < 2 ^ 64 by omega) (Nat.pow_le_pow_right (by omega) (by omega)))
    simp [hi, this]
theorem run_not64 (f : Nat) (h : f < 18446744073709551616) (w : World) : (Op.unary .xor (.int .u64 f)).run Try.prog w = .ok (.int .u64 (18446744073709551615 - (f : Int))) w := by
  simp [go_sem]
  have e : (if IntKind.u64.signed = true then -1 else IntKind.u64.max) = ((18446744073709551615 : Nat) : Int) := by decide
  rw [e, u64_xor_nat _ _ (by omega) h, not64 f h]
  omega
theorem run_add63 (f : Nat) (h : f < 9223372036854775808) (w : World) : (binOp .add 27 (.int .u64 f) (.int .u64 9223372036854775808)).run Try.prog w = .ok (.int .u64 ((f : Int) + 9223372036854775808)) w := by
  simp [go_sem]
  rw [IntKind.wrap_u64]
  omega
theorem run_or63 (f : Nat) (h : f < 9223372036854775808) (w : World) : (binOp .or 27 (.int .u64 f) (.int .u64 9223372036854775808)).run Try.prog w = .ok (.int .u64 ((f : Int) + 9223372036854775808)) w := by
  simp [go_sem]
  have e : (9223372036854775808 : Int) = ((9223372036854775808 : Nat) : Int) := rfl
  rw [e, u64_or_nat _ _ (by omega) (by omega)]
  have := Nat.two_pow_add_eq_or_of_lt (i := 63) (b := f) (by omega) 1
  rw [Nat.or_comm, show (9223372036854775808 : Nat) = 2 ^ 63 * 1 by decide, ← this]
  omega
theorem run_shr63 (f : Nat) (w : World) : (binOp .shr 27 (.int .u64 f) (.int .u64 63)).run Try.prog w = .ok (.int .u64 ((f / 9223372036854775808 : Nat) : Int)) w := by
  simp [go_sem]
theorem bits_call (f : Nat) (w : World) : (callFunc 60 #[.float .f64 f]).run Try.prog w = .ok (.value (.int .u64 f)) w := by
  rw [run_callFunc_standIn Try.func60 (by kernel_rfl) (by kernel_rfl) (by kernel_rfl) (e := Extern.MathFloatBits.float64bits) (by kernel_rfl)]
  rfl
theorem bitsnot (f : Nat) (h : f < 18446744073709551616) : bits .xor .u64 IntKind.u64.max (f : Int) = 18446744073709551615 - (f : Int) := by
  have e : IntKind.u64.max = ((18446744073709551615 : Nat) : Int) := by decide
  rw [e, u64_xor_nat _ _ (by omega) h, not64 f h]
  omega
theorem bitsor (f : Nat) (h : f < 9223372036854775808) : bits .or .u64 (f : Int) 9223372036854775808 = (f : Int) + 9223372036854775808 := by
  have e : (9223372036854775808 : Int) = ((9223372036854775808 : Nat) : Int) := rfl
  rw [e, u64_or_nat _ _ (by omega) (by omega)]
  have := Nat.two_pow_add_eq_or_of_lt (i := 63) (b := f) (by omega) 1
  rw [Nat.or_comm, show (9223372036854775808 : Nat) = 2 ^ 63 * 1 by decide, ← this]
  omega
theorem div_hi {f : Nat} (h : (f : Int) / 9223372036854775808 = 1) : 9223372036854775808 ≤ f := by omega
theorem div_lo {f : Nat} (hf : f < 18446744073709551616) (h : ¬ (f : Int) / 9223372036854775808 = 1) : f < 9223372036854775808 := by omega
set_option maxRecDepth 200000 in
theorem rplace_any (f : Nat) (w : World) (hf : f < 18446744073709551616) : Calls Try.prog 57 #[.float .f64 f] w (fun e w' => e = .returned (.int .u64 (placeF f)) ∧ w' = w) := by
  obtain ⟨q, hq⟩ : ∃ q, placeF f = q := ⟨_, rfl⟩
  obtain ⟨x, hx⟩ : ∃ x : Int, x = f := ⟨_, rfl⟩
  have hcall := bits_call f
  rw [← hx] at hcall
  rw [hq]
  have HQ := Lib.hid hq
  have HX := Lib.hid hx
  have HF := Lib.hid hf
  clear hq hx hf
  go_enter Try.func57, Try.ntmps57
  go_wp2
  · rename_i h1
    go_ret
    refine ⟨?_, rfl⟩
    have hf := HF.out
    have hx := HX.out
    subst hx
    show Ending.returned (.int .u64 (bits .xor .u64 IntKind.u64.max (f : Int))) = _
    rw [bitsnot f hf, ← HQ.out, placeF, if_pos (by omega)]
  · rename_i h1
    go_ret
    refine ⟨?_, rfl⟩
    have hf := HF.out
    have hx := HX.out
    subst hx
    show Ending.returned (.int .u64 (IntKind.u64.wrap ((f : Int) + 9223372036854775808))) = _
    rw [show IntKind.u64.wrap ((f : Int) + 9223372036854775808) = (f : Int) + 9223372036854775808 by rw [IntKind.wrap_u64]; omega, ← HQ.out, placeF, if_neg (by omega)]
set_option maxRecDepth 200000 in
theorem vplace_any (f : Nat) (w : World) (hf : f < 18446744073709551616) : Calls Try.prog 97 #[.float .f64 f] w (fun e w' => e = .returned (.int .u64 (placeF f)) ∧ w' = w) := by
  obtain ⟨q, hq⟩ : ∃ q, placeF f = q := ⟨_, rfl⟩
  obtain ⟨x, hx⟩ : ∃ x : Int, x = f := ⟨_, rfl⟩
  have hcall := bits_call f
  rw [← hx] at hcall
  rw [hq]
  have HQ := Lib.hid hq
  have HX := Lib.hid hx
  have HF := Lib.hid hf
  clear hq hx hf
  go_enter Try.func97, Try.ntmps97
  go_wp2
  · rename_i h1
    go_ret
    refine ⟨?_, rfl⟩
    have hf := HF.out
    have hx := HX.out
    subst hx
    show Ending.returned (.int .u64 (bits .xor .u64 IntKind.u64.max (f : Int))) = _
    rw [bitsnot f hf, ← HQ.out, placeF, if_pos (div_hi (by simpa using h1))]
  · rename_i h1
    go_ret
    refine ⟨?_, rfl⟩
    have hf := HF.out
    have hx := HX.out
    subst hx
    show Ending.returned (.int .u64 (bits .or .u64 (f : Int) 9223372036854775808)) = _
    rw [bitsor f (div_lo hf (by simpa using h1)), ← HQ.out, placeF, if_neg (Nat.not_le.2 (div_lo hf (by simpa using h1)))]
end Go.Proofs.Ythanmakakcmkeaa
