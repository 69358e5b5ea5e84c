/- Names: value.name and tenonref01.Name tell the same. -/
import Derived.Test.YthanmakakcmkeaaTa
import Derived.Lib.ConvBytes
import Derived.WalkLawsBesides
import Derived.Outline
import Derived.Deep.LoopGhost
namespace Go.Proofs.Ythanmakakcmkeaa
open Go.RowKit

def lowerC (c : Nat) : Bool := 97 ≤ c && c ≤ 122
def nameC (c : Nat) : Bool := lowerC c || (48 ≤ c && c ≤ 57) || c == 95
/-- a text is a name -/
def nameL : List UInt8 → Bool
  | [] => false
  | c :: l => decide (l.length < 32) && lowerC c.toNat && l.all fun c => nameC c.toNat
def nameOk (s : ByteArray) : Bool := nameL s.data.toList

def Says (b : Bool) (w : World) (e : Ending) (w' : World) : Prop := e = .returned (.bool b) ∧ Below w.heap.size w w'

theorem idx0 (s : ByteArray) (c : UInt8) (l : List UInt8) (hs : s.data.toList = c :: l) (w : World) : (Instr.index 9 (.string s) (.int .i64 0)).run Try.prog w = .ok (.int .u8 c.toNat) w := by
  have h0 : s[0]? = some c := by
    have h1 : 0 < s.size := by rw [← ByteArray.size_data, ← Array.length_toList, hs]; simp
    rw [getElem?_pos s 0 h1]
    have : s.data.toList[0]? = some c := by rw [hs]; rfl
    rw [Array.getElem?_toList] at this
    rw [Array.getElem?_eq_getElem (by simpa using h1)] at this
    exact this
  simp [Instr.index, run_underlying Try.underlying9, asIntOf, h0]

theorem empty_of (s : ByteArray) (h : s.data.toList = []) : s.toList.isEmpty = true := by
  rw [ByteArray.toList_eq, h]; rfl
theorem nonempty_of (s : ByteArray) (c : UInt8) (l : List UInt8) (h : s.data.toList = c :: l) : s.toList.isEmpty = false := by
  cases hs : s.toList with
  | nil => rw [ByteArray.toList_eq, h] at hs; cases hs
  | cons x y => rfl

theorem name_empty (s : ByteArray) (w : World) (hs : s.data.toList = []) : Calls Try.prog 113 #[.string s] w (fun e w' => e = .returned (.bool false) ∧ w = w') := by
  have he := empty_of s hs
  clear hs
  go_enter Try.func113, Try.ntmps113
  go_wp2
  go_ret
  exact ⟨rfl, rfl⟩
theorem name_long (s : ByteArray) (c : UInt8) (l : List UInt8) (w : World) (hs : s.data.toList = c :: l) (h1 : decide (32 < (s.size : Int)) = true) : Calls Try.prog 113 #[.string s] w (fun e w' => e = .returned (.bool false) ∧ w = w') := by
  have hi := idx0 s c l hs
  have he := nonempty_of s c l hs
  clear hs
  go_enter Try.func113, Try.ntmps113
  go_wp2
  go_ret
  exact ⟨rfl, rfl⟩
theorem name_low (s : ByteArray) (c : UInt8) (l : List UInt8) (w : World) (hs : s.data.toList = c :: l) (h1 : decide (32 < (s.size : Int)) = false) (h2 : decide ((c.toNat : Int) < 97) = true) : Calls Try.prog 113 #[.string s] w (fun e w' => e = .returned (.bool false) ∧ w = w') := by
  have hi := idx0 s c l hs
  have he := nonempty_of s c l hs
  clear hs
  go_enter Try.func113, Try.ntmps113
  go_wp2
  go_ret
  exact ⟨rfl, rfl⟩
theorem name_high (s : ByteArray) (c : UInt8) (l : List UInt8) (w : World) (hs : s.data.toList = c :: l) (h1 : decide (32 < (s.size : Int)) = false) (h2 : decide ((c.toNat : Int) < 97) = false) (h3 : decide (122 < (c.toNat : Int)) = true) : Calls Try.prog 113 #[.string s] w (fun e w' => e = .returned (.bool false) ∧ w = w') := by
  have hi := idx0 s c l hs
  have he := nonempty_of s c l hs
  clear hs
  go_enter Try.func113, Try.ntmps113
  go_wp2
  go_ret
  exact ⟨rfl, rfl⟩

theorem all_snoc (p : UInt8 → Bool) (l : List UInt8) (k : Nat) (h : k < l.length) : (l.take (k + 1)).all p = ((l.take k).all p && p l[k]) := by
  rw [List.take_succ_eq_append_getElem h, List.all_append]; simp

set_option maxRecDepth 20000 in
set_option maxHeartbeats 1000000 in
theorem name_loop (s : ByteArray) (c : UInt8) (l : List UInt8) (w : World) (hs : s.data.toList = c :: l) (h1 : decide (32 < (s.size : Int)) = false) (h2 : decide ((c.toNat : Int) < 97) = false) (h3 : decide (122 < (c.toNat : Int)) = false) (r : Bool) (hr : ((c :: l).all fun c => nameC c.toNat) = r) :
    Calls Try.prog 113 #[.string s] w (Says r w) := by
  have HR := Lib.hid hr
  clear hr
  have hcv := Lib.run_convert_string_bytes (P := Try.prog) w 9 26 5 s Try.underlying9 Try.underlying26 Try.underlying5
  have hi := idx0 s c l hs
  have he := nonempty_of s c l hs
  have hn : s.size = (c :: l).length := by rw [← hs, Array.length_toList, ByteArray.size_data]
  have hsz : s.size ≤ 32 := by have := of_decide_eq_false h1; omega
  obtain ⟨W, hW⟩ : ∃ W, W = Lib.bytesWorld w 5 s := ⟨_, rfl⟩
  have hbl : Below w.heap.size w W := by
    rw [hW]
    exact ⟨rfl, rfl, rfl, by rw [Lib.bytesWorld_size]; omega, fun k hk => Lib.bytesWorld_at_old w _ s k hk⟩
  have hcell : ∀ k (hk : k < (c :: l).length), W.cell? ⟨w.heap.size, k, none⟩ = some (.int .u8 ((c :: l)[k]).toNat) := by
    intro k hk
    rw [hW, Lib.bytesWorld_cell w _ s k (by omega), hs]
    simp [List.getD, List.getElem?_eq_getElem hk]
  rw [← hW] at hcv
  have HS := Lib.hid hs
  have HN := Lib.hid hn
  have HC := Lib.hid hcell
  clear hs hn hcell hW
  go_enter Try.func113, Try.ntmps113
  go_wp2
  clear hi he h1 h2 h3 hcv
  go_loop [2, 4, 25] (fun v2 v4 v25 => ∃ k : Nat, k ≤ s.size ∧ v25 = .int .i64 k ∧ ((c :: l).take k).all (fun c => nameC c.toNat) = true) (fun _ _ v => s.size - (intOf v).toNat)
  case atStart => exact ⟨0, by omega, rfl, by simp⟩
  case round =>
    obtain ⟨k, hk, rfl, hall⟩ := hrel
    have HA := Lib.hid hall
    clear hall
    by_cases hlt : k < s.size
    · have hkl : k < (c :: l).length := by rw [← HN.out]; exact hlt
      have hc := HC.out k hkl
      obtain ⟨x, hx⟩ : ∃ x : Int, x = ((c :: l)[k]).toNat := ⟨_, rfl⟩
      have hx0 : 0 ≤ x := by rw [hx]; omega
      have hx1 : x ≤ 255 := by rw [hx]; have := ((c :: l)[k]).toNat_lt; omega
      rw [← hx] at hc
      have HX := Lib.hid hx
      clear hx
      have good : nameC ((c :: l)[k]).toNat = true → ((c :: l).take (k + 1)).all (fun c => nameC c.toNat) = true := fun h => by rw [all_snoc _ _ _ hkl, HA.out, h]; rfl
      have bad : nameC ((c :: l)[k]).toNat = false → (c :: l).all (fun c => nameC c.toNat) = false := fun h => by
        rw [List.all_eq_false]; exact ⟨_, List.getElem_mem hkl, by simp [h]⟩
      have GOOD := Lib.hid good
      have BAD := Lib.hid bad
      clear good bad
      by_cases q0 : 97 ≤ x ∧ x ≤ 122
      · have b0 : decide (x < 97) = false := by simp; omega
        have b1 : decide (122 < x) = false := by simp; omega
        go_wp2
        go_round
        case rel => exact ⟨k + 1, by omega, by go_num, GOOD.out (by have := HX.out; simp [nameC, lowerC]; omega)⟩
        case measure => simp [intOf]; omega
      by_cases q1 : x < 48
      · have b0 : decide (x < 97) = true := by simp; omega
        have b2 : decide (x < 48) = true := by simp; omega
        have b4 : (x != 95) = true := by simp; omega
        go_wp2
        go_ret
        exact ⟨by rw [← HR.out, BAD.out (by have := HX.out; simp [nameC, lowerC]; omega)]; rfl, hbl⟩
      by_cases q2 : 48 ≤ x ∧ x ≤ 57
      · have b0 : decide (x < 97) = true := by simp; omega
        have b2 : decide (x < 48) = false := by simp; omega
        have b3 : decide (57 < x) = false := by simp; omega
        go_wp2
        go_round
        case rel => exact ⟨k + 1, by omega, by go_num, GOOD.out (by have := HX.out; simp [nameC, lowerC]; omega)⟩
        case measure => simp [intOf]; omega
      by_cases q3 : x = 95
      · have b0 : decide (x < 97) = true := by simp; omega
        have b2 : decide (x < 48) = false := by simp; omega
        have b3 : decide (57 < x) = true := by simp; omega
        have b4 : (x != 95) = false := by simp; omega
        go_wp2
        go_round
        case rel => exact ⟨k + 1, by omega, by go_num, GOOD.out (by have := HX.out; simp [nameC, lowerC]; omega)⟩
        case measure => simp [intOf]; omega
      by_cases q4 : 57 < x ∧ x < 97 ∧ x ≠ 95
      · have b0 : decide (x < 97) = true := by simp; omega
        have b2 : decide (x < 48) = false := by simp; omega
        have b3 : decide (57 < x) = true := by simp; omega
        have b4 : (x != 95) = true := by simp; omega
        go_wp2
        go_ret
        exact ⟨by rw [← HR.out, BAD.out (by have := HX.out; simp [nameC, lowerC]; omega)]; rfl, hbl⟩
      have q5 : 122 < x := by omega
      have b0 : decide (x < 97) = false := by simp; omega
      have b1 : decide (122 < x) = true := by simp; omega
      have b2 : decide (x < 48) = false := by simp; omega
      have b3 : decide (57 < x) = true := by simp; omega
      have b4 : (x != 95) = true := by simp; omega
      go_wp2
      go_ret
      exact ⟨by rw [← HR.out, BAD.out (by have := HX.out; simp [nameC, lowerC]; omega)]; rfl, hbl⟩
    · obtain rfl : k = s.size := by omega
      go_wp2
      go_ret
      have h := HA.out
      rw [List.take_of_length_le (by rw [← HN.out]; omega)] at h
      exact ⟨by rw [← HR.out, h]; rfl, hbl⟩

theorem name_any (s : ByteArray) (w : World) : Calls Try.prog 113 #[.string s] w (Says (nameOk s) w) := by
  unfold nameOk
  have hn : s.size = s.data.toList.length := by rw [Array.length_toList, ByteArray.size_data]
  cases hs : s.data.toList with
  | nil => exact (name_empty s w hs).mono fun e w' ⟨he, hw⟩ => ⟨he, hw ▸ Below.refl _ _⟩
  | cons c l =>
    rw [hs] at hn
    simp only [List.length_cons] at hn
    by_cases h1 : 32 < (s.size : Int)
    · refine (name_long s c l w hs (by simpa using h1)).mono fun e w' ⟨he, hw⟩ => ⟨?_, hw ▸ Below.refl _ _⟩
      rw [he]; simp [nameL]; omega
    by_cases h2 : (c.toNat : Int) < 97
    · refine (name_low s c l w hs (by simpa using h1) (by simpa using h2)).mono fun e w' ⟨he, hw⟩ => ⟨?_, hw ▸ Below.refl _ _⟩
      rw [he]; simp [nameL, lowerC]; omega
    by_cases h3 : 122 < (c.toNat : Int)
    · refine (name_high s c l w hs (by simpa using h1) (by simpa using h2) (by simpa using h3)).mono fun e w' ⟨he, hw⟩ => ⟨?_, hw ▸ Below.refl _ _⟩
      rw [he]; simp [nameL, lowerC]; omega
    refine (name_loop s c l w hs (by simpa using h1) (by simpa using h2) (by simpa using h3) _ rfl).mono fun e w' ⟨he, hb⟩ => ⟨?_, hb⟩
    rw [he]
    have hl : l.length < 32 := by omega
    have hc : lowerC c.toNat = true := by simp [lowerC]; omega
    simp [nameL, hl, hc, nameC]
end Go.Proofs.Ythanmakakcmkeaa
