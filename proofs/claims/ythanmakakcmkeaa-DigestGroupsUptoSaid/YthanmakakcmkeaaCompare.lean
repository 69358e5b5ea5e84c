/- tenonref01.Compare: the order of terms is the order of their values. -/
import Derived.Test.YthanmakakcmkeaaOrder3
import Derived.Lib.SlBytesRow
namespace Go.Proofs.Ythanmakakcmkeaa
open Go.RowKit

def CmpAt (t : Tm) : Prop := ∀ (u : Tm) (cs ds : List Value) (w : World) (B : Nat), B ≤ w.heap.size → TmAt w B t cs → TmAt w B u ds → goodV (build t) → goodV (build u) →
  Calls Try.prog 37 #[.agg cs.toArray, .agg ds.toArray] w (Gives (cmpV (build t) (build u)) w)

theorem conv_rd (w : World) (B : Nat) (A : Option Addr) (bs : List UInt8) (c : Nat) (h : Rd w B 1 A bs.length (bs.map u8v)) : (convert 26 9 (.slice A bs.length c)).run Try.prog w = .ok (.string ⟨bs.toArray⟩) w := by
  by_cases h0 : bs.length = 0
  · have hb : bs = [] := List.eq_nil_of_length_eq_zero h0
    subst hb
    rw [run_convert_bytes_string w 26 9 5 A _ c Try.underlying26 Try.underlying5 Try.underlying9]
    cases A with
    | none => simp [Conv.bytesToString]; rfl
    | some a =>
      have := run_bytesToString (P := Try.prog) w a 0 c [] (by simp [loadCells, loadCellsFrom])
      exact this
  · obtain ⟨b, off, rfl, _, hc⟩ := h.2 (by omega)
    have hs : (⟨bs.toArray⟩ : ByteArray).size = bs.length := by simp [ByteArray.size]
    have := Lib.run_convert_whole (P := Try.prog) w 26 5 9 Try.underlying26 Try.underlying5 Try.underlying9 b off ⟨bs.toArray⟩ (fun i hi => by
      rw [hc i (by rw [hs] at hi; omega)]
      rw [hs] at hi
      have e : (⟨bs.toArray⟩ : ByteArray)[i].toNat = bs[i].toNat := rfl
      simp [hi, u8v, e]) c
    rw [hs] at this
    exact this

section
variable (b : Bool) (i : Int) (f : Nat) (s : ByteArray) (A5 : Option Addr) (n5 c5 : Nat) (r : Int) (A7 : Option Addr) (n7 c7 : Nat) (A8 : Option Addr) (n8 c8 : Nat) (c : ByteArray) (v : Int)
variable (bY : Bool) (iY : Int) (fY : Nat) (sY : ByteArray) (A5Y : Option Addr) (n5Y c5Y : Nat) (rY : Int) (A7Y : Option Addr) (n7Y c7Y : Nat) (A8Y : Option Addr) (n8Y c8Y : Nat) (cY : ByteArray) (vY : Int) (w : World)
set_option maxRecDepth 20000 in
theorem cmp_kinds (k l : Int) (h : (k != l) = true) (hk : IntKind.u64.wrap k = k) (hl : IntKind.u64.wrap l = l) : Calls Try.prog 37 #[.agg #[.int .i64 k, .bool b, .int .i64 i, .float .f64 f, .string s, .slice A5 n5 c5, .int .u64 r, .slice A7 n7 c7, .slice A8 n8 c8, .string c, .int .i64 v], .agg #[.int .i64 l, .bool bY, .int .i64 iY, .float .f64 fY, .string sY, .slice A5Y n5Y c5Y, .int .u64 rY, .slice A7Y n7Y c7Y, .slice A8Y n8Y c8Y, .string cY, .int .i64 vY]] w (Gives (sgn k l) w) := by
  have HN := Lib.hid rnumbers_any
  go_enter Try.func37, Try.ntmps37
  go_wp2_with (first | (go_at_call 55; refine (HN.out _ _ _).mono ?_; rintro e w1 ⟨rfl, hw1⟩; subst w1))
  go_ret
  exact ⟨rfl, ((Below.refl _ _).alloc (Nat.le_refl _) _).alloc (by simp) _⟩
set_option maxRecDepth 20000 in
theorem cmp_1 : Calls Try.prog 37 #[.agg #[.int .i64 1, .bool b, .int .i64 i, .float .f64 f, .string s, .slice A5 n5 c5, .int .u64 r, .slice A7 n7 c7, .slice A8 n8 c8, .string c, .int .i64 v], .agg #[.int .i64 1, .bool bY, .int .i64 iY, .float .f64 fY, .string sY, .slice A5Y n5Y c5Y, .int .u64 rY, .slice A7Y n7Y c7Y, .slice A8Y n8Y c8Y, .string cY, .int .i64 vY]] w (Gives 0 w) := by
  go_enter Try.func37, Try.ntmps37
  go_wp2_with fail
  go_ret
  exact ⟨rfl, ((Below.refl _ _).alloc (Nat.le_refl _) _).alloc (by simp) _⟩
set_option maxRecDepth 20000 in
theorem cmp_5 (q : Int) (hq : cmpT s sY = q) : Calls Try.prog 37 #[.agg #[.int .i64 5, .bool b, .int .i64 i, .float .f64 f, .string s, .slice A5 n5 c5, .int .u64 r, .slice A7 n7 c7, .slice A8 n8 c8, .string c, .int .i64 v], .agg #[.int .i64 5, .bool bY, .int .i64 iY, .float .f64 fY, .string sY, .slice A5Y n5Y c5Y, .int .u64 rY, .slice A7Y n7Y c7Y, .slice A8Y n8Y c8Y, .string cY, .int .i64 vY]] w (Gives q w) := by
  have HT : Hid (∀ w, Calls Try.prog 58 #[.string s, .string sY] w (fun e w' => e = .returned (.int .i64 q) ∧ w' = w)) := Lib.hid (hq ▸ rtexts_any s sY)
  clear hq
  go_enter Try.func37, Try.ntmps37
  go_wp2_with (first | (go_at_call 58; refine (HT.out _).mono ?_; rintro e w1 ⟨rfl, hw1⟩; subst w1))
  go_ret
  exact ⟨rfl, ((Below.refl _ _).alloc (Nat.le_refl _) _).alloc (by simp) _⟩
set_option maxRecDepth 20000 in
theorem cmp_7 (q : Int) (hq : sgn r rY = q) : Calls Try.prog 37 #[.agg #[.int .i64 7, .bool b, .int .i64 i, .float .f64 f, .string s, .slice A5 n5 c5, .int .u64 r, .slice A7 n7 c7, .slice A8 n8 c8, .string c, .int .i64 v], .agg #[.int .i64 7, .bool bY, .int .i64 iY, .float .f64 fY, .string sY, .slice A5Y n5Y c5Y, .int .u64 rY, .slice A7Y n7Y c7Y, .slice A8Y n8Y c8Y, .string cY, .int .i64 vY]] w (Gives q w) := by
  have HN : Hid (∀ w, Calls Try.prog 55 #[.int .u64 r, .int .u64 rY] w (fun e w' => e = .returned (.int .i64 q) ∧ w' = w)) := Lib.hid (hq ▸ rnumbers_any r rY)
  clear hq
  go_enter Try.func37, Try.ntmps37
  go_wp2_with (first | (go_at_call 55; refine (HN.out _).mono ?_; rintro e w1 ⟨rfl, hw1⟩; subst w1))
  go_ret
  exact ⟨rfl, ((Below.refl _ _).alloc (Nat.le_refl _) _).alloc (by simp) _⟩
set_option maxRecDepth 20000 in
set_option maxHeartbeats 2000000 in
theorem cmp_2 : Calls Try.prog 37 #[.agg #[.int .i64 2, .bool b, .int .i64 i, .float .f64 f, .string s, .slice A5 n5 c5, .int .u64 r, .slice A7 n7 c7, .slice A8 n8 c8, .string c, .int .i64 v], .agg #[.int .i64 2, .bool bY, .int .i64 iY, .float .f64 fY, .string sY, .slice A5Y n5Y c5Y, .int .u64 rY, .slice A7Y n7Y c7Y, .slice A8Y n8Y c8Y, .string cY, .int .i64 vY]] w (Gives (sgn (tr b) (tr bY)) w) := by
  have HF := Lib.hid rflag_any
  have HN := Lib.hid rnumbers_any
  go_enter Try.func37, Try.ntmps37
  go_wp2_with fail
  go_quiet (first | (go_at_call 56; refine Calls.quiet_of_same (HF.out _ _)) | (go_at_call 55; refine Calls.quiet_of_same (HN.out _ _ _)))
  go_wp2
  go_ret
  exact ⟨rfl, below_drewN (((Below.refl _ _).alloc (Nat.le_refl _) _).alloc (by simp) _) _⟩
set_option maxRecDepth 20000 in
set_option maxHeartbeats 2000000 in
theorem cmp_4 (hf : f < 18446744073709551616) (hf2 : fY < 18446744073709551616) : Calls Try.prog 37 #[.agg #[.int .i64 4, .bool b, .int .i64 i, .float .f64 f, .string s, .slice A5 n5 c5, .int .u64 r, .slice A7 n7 c7, .slice A8 n8 c8, .string c, .int .i64 v], .agg #[.int .i64 4, .bool bY, .int .i64 iY, .float .f64 fY, .string sY, .slice A5Y n5Y c5Y, .int .u64 rY, .slice A7Y n7Y c7Y, .slice A8Y n8Y c8Y, .string cY, .int .i64 vY]] w (Gives (sgn (placeF f) (placeF fY)) w) := by
  have HF : Hid (∀ z w, z = f ∨ z = fY → Calls Try.prog 57 #[.float .f64 z] w (fun e w' => e = .returned (.int .u64 (placeF z)) ∧ w' = w)) :=
    Lib.hid fun z w h => rplace_any z w (by rcases h with rfl | rfl <;> assumption)
  have HN := Lib.hid rnumbers_any
  clear hf hf2
  go_enter Try.func37, Try.ntmps37
  go_wp2_with fail
  go_quiet (first | (go_at_call 57; refine Calls.quiet_of_same (HF.out _ _ ?_); first | exact Or.inl rfl | exact Or.inr rfl) | (go_at_call 55; refine Calls.quiet_of_same (HN.out _ _ _)))
  go_wp2
  go_ret
  exact ⟨rfl, below_drewN (((Below.refl _ _).alloc (Nat.le_refl _) _).alloc (by simp) _) _⟩
set_option maxRecDepth 200000 in
theorem cmp_3 (hi : -9223372036854775808 ≤ i ∧ i ≤ 9223372036854775807) (hiY : -9223372036854775808 ≤ iY ∧ iY ≤ 9223372036854775807) : Calls Try.prog 37 #[.agg #[.int .i64 3, .bool b, .int .i64 i, .float .f64 f, .string s, .slice A5 n5 c5, .int .u64 r, .slice A7 n7 c7, .slice A8 n8 c8, .string c, .int .i64 v], .agg #[.int .i64 3, .bool bY, .int .i64 iY, .float .f64 fY, .string sY, .slice A5Y n5Y c5Y, .int .u64 rY, .slice A7Y n7Y c7Y, .slice A8Y n8Y c8Y, .string cY, .int .i64 vY]] w (Gives (sgn i iY) w) := by
  have HN := Lib.hid rnumbers_any
  have HI := Lib.hid hi
  have HIY := Lib.hid hiY
  obtain ⟨q, hq⟩ : ∃ q, sgn i iY = q := ⟨_, rfl⟩
  rw [hq]
  have HQ := Lib.hid hq
  clear hi hiY hq
  go_enter Try.func37, Try.ntmps37
  go_wp2_with (first | (go_at_call 55; refine (HN.out _ _ _).mono ?_; rintro e w1 ⟨rfl, hw1⟩; subst w1))
  go_ret
  refine ⟨?_, ((Below.refl _ _).alloc (Nat.le_refl _) _).alloc (by simp) _⟩
  show Ending.returned (.int .i64 (sgn (IntKind.u64.wrap (IntKind.u64.wrap i + 9223372036854775808)) (IntKind.u64.wrap (IntKind.u64.wrap iY + 9223372036854775808)))) = _
  have h1 := HI.out
  have h2 := HIY.out
  have e1 : IntKind.u64.wrap (IntKind.u64.wrap i + 9223372036854775808) = i + 9223372036854775808 := by rw [IntKind.wrap_u64, IntKind.wrap_u64]; omega
  have e2 : IntKind.u64.wrap (IntKind.u64.wrap iY + 9223372036854775808) = iY + 9223372036854775808 := by rw [IntKind.wrap_u64, IntKind.wrap_u64]; omega
  rw [e1, e2, ← HQ.out]
  unfold sgn
  congr 2
  by_cases h3 : i < iY
  · rw [if_pos h3, if_pos (by omega)]
  · rw [if_neg h3, if_neg (by omega)]
    by_cases h4 : iY < i
    · rw [if_pos h4, if_pos (by omega)]
    · rw [if_neg h4, if_neg (by omega)]
end

set_option maxRecDepth 20000 in
theorem cmp_6 (b : Bool) (i : Int) (f : Nat) (s : ByteArray) (A5 : Option Addr) (bs : List UInt8) (c5 : Nat) (r : Int) (A7 : Option Addr) (n7 c7 : Nat) (A8 : Option Addr) (n8 c8 : Nat) (c : ByteArray) (v : Int)
    (bY : Bool) (iY : Int) (fY : Nat) (sY : ByteArray) (A5Y : Option Addr) (bsY : List UInt8) (c5Y : Nat) (rY : Int) (A7Y : Option Addr) (n7Y c7Y : Nat) (A8Y : Option Addr) (n8Y c8Y : Nat) (cY : ByteArray) (vY : Int) (w : World) (B : Nat) (hB : B ≤ w.heap.size)
    (h1 : Rd w B 1 A5 bs.length (bs.map u8v)) (h2 : Rd w B 1 A5Y bsY.length (bsY.map u8v)) (q : Int) (hq : cmpL bs bsY = q) :
    Calls Try.prog 37 #[.agg #[.int .i64 6, .bool b, .int .i64 i, .float .f64 f, .string s, .slice A5 bs.length c5, .int .u64 r, .slice A7 n7 c7, .slice A8 n8 c8, .string c, .int .i64 v], .agg #[.int .i64 6, .bool bY, .int .i64 iY, .float .f64 fY, .string sY, .slice A5Y bsY.length c5Y, .int .u64 rY, .slice A7Y n7Y c7Y, .slice A8Y n8Y c8Y, .string cY, .int .i64 vY]] w (Gives q w) := by
  have HT : Hid (∀ w, Calls Try.prog 58 #[.string ⟨bs.toArray⟩, .string ⟨bsY.toArray⟩] w (fun e w' => e = .returned (.int .i64 q) ∧ w' = w)) := Lib.hid (by
    have h := rtexts_any ⟨bs.toArray⟩ ⟨bsY.toArray⟩
    unfold cmpT at h
    rw [ByteArray.toList_eq, ByteArray.toList_eq] at h
    simp only at h
    rwa [hq] at h)
  have HB : Hid (Below w.heap.size w ((w.alloc (.cells #[.int .i64 6, .bool b, .int .i64 i, .float .f64 f, .string s, .slice A5 bs.length c5, .int .u64 r, .slice A7 n7 c7, .slice A8 n8 c8, .string c, .int .i64 v] 31)).alloc (.cells #[.int .i64 6, .bool bY, .int .i64 iY, .float .f64 fY, .string sY, .slice A5Y bsY.length c5Y, .int .u64 rY, .slice A7Y n7Y c7Y, .slice A8Y n8Y c8Y, .string cY, .int .i64 vY] 31))) := Lib.hid (((Below.refl _ _).alloc (Nat.le_refl _) _).alloc (by simp) _)
  have hc1 := conv_rd _ B A5 bs c5 (h1.below HB.out hB)
  have hc2 := conv_rd _ B A5Y bsY c5Y (h2.below HB.out hB)
  clear h1 h2 hq
  go_enter Try.func37, Try.ntmps37
  go_wp2_with (first | (go_at_call 58; refine (HT.out _).mono ?_; rintro e w1 ⟨rfl, hw1⟩; subst w1))
  go_ret
  exact ⟨rfl, ((Below.refl _ _).alloc (Nat.le_refl _) _).alloc (by simp) _⟩
end Go.Proofs.Ythanmakakcmkeaa
