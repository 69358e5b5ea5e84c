/- The order of values: slices.Compare of bytes, value.order, slices.CompareFunc, value.field. -/
import Derived.Test.YthanmakakcmkeaaLeaf
import Derived.Deep.QuietTactic
import Derived.BigQuiet
namespace Go.Proofs.Ythanmakakcmkeaa
open Go.RowKit

mutual
/-- the order of two values -/
def cmpV : V → V → Int
  | .bool a, y => match y with | .bool b => sgn (tr a) (tr b) | y => sgn 2 (kindOf y)
  | .int a, y => match y with | .int b => sgn a b | y => sgn 3 (kindOf y)
  | .float a, y => match y with | .float b => sgn (placeF a) (placeF b) | y => sgn 4 (kindOf y)
  | .text a, y => match y with | .text b => cmpT a b | y => sgn 5 (kindOf y)
  | .bytes a, y => match y with | .bytes b => cmpL a b | y => sgn 6 (kindOf y)
  | .ref a, y => match y with | .ref b => sgn a b | y => sgn 7 (kindOf y)
  | .list a, y => match y with | .list b => cmpsV a b | y => sgn 8 (kindOf y)
  | .dict n a, y => match y with | .dict m b => cmpF a n m b | y => sgn 9 (kindOf y)
  | .recd c r n a, y => match y with | .recd d s m b => if cmpT c d = 0 then if sgn r s = 0 then cmpF a n m b else sgn r s else cmpT c d | y => sgn 10 (kindOf y)
  | .nil, y => sgn 1 (kindOf y)
  | .nothing, y => sgn 11 (kindOf y)
  | .alien, y => sgn 0 (kindOf y)
def cmpsV : List V → List V → Int
  | [], ys => match ys with | [] => 0 | _ :: _ => -1
  | x :: xs, ys => match ys with | [] => 1 | y :: ys => if cmpV x y = 0 then cmpsV xs ys else cmpV x y
def cmpF : List V → List ByteArray → List ByteArray → List V → Int
  | [], _, _, ys => match ys with | [] => 0 | _ :: _ => -1
  | x :: xs, ns, ms, ys => match ys with
    | [] => 1
    | y :: ys => if cmpT (ns.headD ByteArray.empty) (ms.headD ByteArray.empty) = 0 then if cmpV x y = 0 then cmpF xs ns.tail ms.tail ys else cmpV x y else cmpT (ns.headD ByteArray.empty) (ms.headD ByteArray.empty)
end

mutual
/-- a value that can be: no pointer to nothing, no alien -/
def goodV : V → Prop
  | .list l => goodsV l
  | .dict _ l => goodsV l
  | .recd _ r _ l => (0 ≤ r ∧ r ≤ 1000) ∧ goodsV l
  | .nothing => False
  | .alien => False
  | _ => True
def goodsV : List V → Prop
  | [] => True
  | x :: xs => goodV x ∧ goodsV xs
end

theorem isNaNByte_any (a : Int) (w : World) : Calls Try.prog 116 #[.int .u8 a] w (fun e w' => e = .returned (.bool false) ∧ w' = w) := by
  go_enter Try.func116, Try.ntmps116
  go_wp2
  go_ret
  exact ⟨rfl, rfl⟩
theorem cmpByte_any (a b : Int) (w : World) : Calls Try.prog 114 #[.int .u8 a, .int .u8 b] w (fun e w' => e = .returned (.int .i64 (sgn a b)) ∧ w' = w) := by
  have hn := isNaNByte_any
  rcases sgn_cases a b with ⟨h, h1⟩ | ⟨h, h1, h2⟩ | ⟨h, h1, h2⟩
  all_goals
    rw [h]
    clear h
    go_enter Try.func114, Try.ntmps114
    go_wp2_with (go_at_call 116; refine (hn _ _).mono ?_; rintro e w1 ⟨rfl, rfl⟩)
    go_ret
    exact ⟨rfl, rfl⟩

theorem cmpL_drop {a b : List UInt8} {k : Nat} (ha : k < a.length) (hb : k < b.length) : cmpL (a.drop k) (b.drop k) = if sgn (a[k]).toNat (b[k]).toNat = 0 then cmpL (a.drop (k + 1)) (b.drop (k + 1)) else sgn (a[k]).toNat (b[k]).toNat := by
  rw [List.drop_eq_getElem_cons ha, List.drop_eq_getElem_cons hb, cmpL]
  have h1 : (a[k] < b[k]) = (((a[k]).toNat : Int) < ((b[k]).toNat : Int)) := by rw [UInt8.lt_iff_toNat_lt]; simp
  have h2 : (b[k] < a[k]) = (((b[k]).toNat : Int) < ((a[k]).toNat : Int)) := by rw [UInt8.lt_iff_toNat_lt]; simp
  simp only [h1, h2, sgn]
  split
  · simp
  · split <;> simp
theorem cmpL_end_left {a b : List UInt8} {k : Nat} (ha : k = a.length) (hb : k < b.length) : cmpL (a.drop k) (b.drop k) = -1 := by
  rw [List.drop_eq_nil_of_le (by omega), List.drop_eq_getElem_cons hb, cmpL]
theorem cmpL_end_right {a b : List UInt8} {k : Nat} (ha : k < a.length) (hb : b.length ≤ k) : cmpL (a.drop k) (b.drop k) = 1 := by
  rw [List.drop_eq_nil_of_le hb, List.drop_eq_getElem_cons ha, cmpL]
theorem cmpL_end {a b : List UInt8} {k : Nat} (ha : k = a.length) (hb : b.length ≤ k) : cmpL (a.drop k) (b.drop k) = 0 := by
  rw [List.drop_eq_nil_of_le hb, List.drop_eq_nil_of_le (by omega), cmpL]

set_option maxRecDepth 20000 in
set_option maxHeartbeats 2000000 in
theorem cmpBytes_any (a b : List UInt8) (g1 c1 g2 c2 : Nat) (w : World) (h1 : Row w 5 1 g1 c1 a.length (a.map u8v)) (h2 : Row w 5 1 g2 c2 b.length (b.map u8v)) (ha : a.length ≤ 1048576) (r : Int) (hr : cmpL a b = r) :
    Calls Try.prog 99 #[.slice (some ⟨g1, 0, none⟩) a.length c1, .slice (some ⟨g2, 0, none⟩) b.length c2] w (fun e w' => e = .returned (.int .i64 r) ∧ w' = w) := by
  have H1 := Lib.hid h1
  have H2 := Lib.hid h2
  have HR := Lib.hid hr
  clear h1 h2 hr
  go_enter Try.func99, Try.ntmps99
  go_wp2
  go_loop [5, 6, 7, 8, 11] (fun v5 v6 v7 v8 v11 => ∃ k : Nat, k ≤ a.length ∧ v11 = .int .i64 k ∧ cmpL (a.drop k) (b.drop k) = r) (fun _ _ _ _ v => a.length - (intOf v).toNat)
  case atStart => exact ⟨0, by omega, rfl, by simpa using HR.out⟩
  case round =>
    obtain ⟨k, hk, rfl, heq⟩ := hrel
    have HEQ := Lib.hid heq
    clear heq
    have hk0 : (0 : Int) ≤ (k : Int) := Int.natCast_nonneg _
    by_cases hlt : k < a.length
    · have hk1 : (k : Int) < (a.length : Int) := by omega
      have hca : w.cell? ⟨g1, k, none⟩ = some (.int .u8 (a[k]).toNat) := by rw [H1.out.cell k (by omega)]; simp [hlt, u8v]
      by_cases hlb : k < b.length
      · have hk2 : (k : Int) < (b.length : Int) := by omega
        have hge : decide ((b.length : Int) ≤ (k : Int)) = false := by simp; omega
        have hcb : w.cell? ⟨g2, k, none⟩ = some (.int .u8 (b[k]).toNat) := by rw [H2.out.cell k (by omega)]; simp [hlb, u8v]
        have hstep := HEQ.out
        rw [cmpL_drop hlt hlb] at hstep
        have hc := cmpByte_any (a[k]).toNat (b[k]).toNat
        generalize ((a[k]).toNat : Int) = x at hca hc hstep
        generalize ((b[k]).toNat : Int) = y at hcb hc hstep
        generalize sgn x y = s at hc hstep
        have HSTEP := Lib.hid hstep
        clear hstep
        by_cases hs : s = 0
        · subst hs
          go_wp2_with (first | (go_at_call 114; refine (hc _).mono ?_; rintro e w1 ⟨rfl, rfl⟩))
          go_round
          case rel => exact ⟨k + 1, by omega, by go_num, by simpa using HSTEP.out⟩
          case measure => simp [intOf]; omega
        · have hsb : (s != 0) = true := by simpa using hs
          go_wp2_with (first | (go_at_call 114; refine (hc _).mono ?_; rintro e w1 ⟨rfl, rfl⟩))
          go_ret
          have := HSTEP.out
          rw [if_neg hs] at this
          exact ⟨by rw [← this]; rfl, rfl⟩
      · have hge : decide ((b.length : Int) ≤ (k : Int)) = true := by simp; omega
        go_wp2
        go_ret
        exact ⟨by rw [← HEQ.out, cmpL_end_right hlt (by omega)]; rfl, rfl⟩
    · obtain rfl : k = a.length := by omega
      by_cases hlb : a.length < b.length
      · have hd : decide ((a.length : Int) < (b.length : Int)) = true := by simp; omega
        go_wp2
        go_ret
        exact ⟨by rw [← HEQ.out, cmpL_end_left rfl hlb]; rfl, rfl⟩
      · have hd : decide ((a.length : Int) < (b.length : Int)) = false := by simp; omega
        go_wp2
        go_ret
        exact ⟨by rw [← HEQ.out, cmpL_end rfl (by omega)]; rfl, rfl⟩
end Go.Proofs.Ythanmakakcmkeaa
