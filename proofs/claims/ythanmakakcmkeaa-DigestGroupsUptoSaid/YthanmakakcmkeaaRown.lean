/- tenonref01.own: what is wrong with a term by itself: as value.own tells of its value. -/
import Derived.Test.YthanmakakcmkeaaRname
namespace Go.Proofs.Ythanmakakcmkeaa
open Go.RowKit

section
variable (k : Int) (b : Bool) (i : Int) (f : Nat) (s : ByteArray) (A5 : Option Addr) (n5 c5 : Nat) (r : Int) (A7 : Option Addr) (n7 c7 : Nat) (A8 : Option Addr) (n8 c8 : Nat) (c : ByteArray) (v : Int) (n deep : Int) (w : World)
theorem rown_nothing : Calls Try.prog 72 #[.agg #[.int .i64 11, .bool b, .int .i64 i, .float .f64 f, .string s, .slice A5 n5 c5, .int .u64 r, .slice A7 n7 c7, .slice A8 n8 c8, .string c, .int .i64 v], .int .i64 n, .int .i64 deep] w (Gives 7 w) := by
  go_enter Try.func72, Try.ntmps72
  go_wp2_with fail
  go_ret
  exact ⟨rfl, (Below.refl _ _).alloc (Nat.le_refl _) _⟩
theorem rown_low (h1 : (k == 11) = false) (h2 : decide (k < 1) = true) : Calls Try.prog 72 #[.agg #[.int .i64 k, .bool b, .int .i64 i, .float .f64 f, .string s, .slice A5 n5 c5, .int .u64 r, .slice A7 n7 c7, .slice A8 n8 c8, .string c, .int .i64 v], .int .i64 n, .int .i64 deep] w (Gives 6 w) := by
  go_enter Try.func72, Try.ntmps72
  go_wp2_with fail
  go_ret
  exact ⟨rfl, (Below.refl _ _).alloc (Nat.le_refl _) _⟩
theorem rown_high (h1 : (k == 11) = false) (h2 : decide (k < 1) = false) (h3 : decide (10 < k) = true) : Calls Try.prog 72 #[.agg #[.int .i64 k, .bool b, .int .i64 i, .float .f64 f, .string s, .slice A5 n5 c5, .int .u64 r, .slice A7 n7 c7, .slice A8 n8 c8, .string c, .int .i64 v], .int .i64 n, .int .i64 deep] w (Gives 6 w) := by
  go_enter Try.func72, Try.ntmps72
  go_wp2_with fail
  go_ret
  exact ⟨rfl, (Below.refl _ _).alloc (Nat.le_refl _) _⟩
theorem rown_over1 (h1 : (k == 11) = false) (h2 : decide (k < 1) = false) (h3 : decide (10 < k) = false) (h4 : decide (16384 ≤ n) = true) : Calls Try.prog 72 #[.agg #[.int .i64 k, .bool b, .int .i64 i, .float .f64 f, .string s, .slice A5 n5 c5, .int .u64 r, .slice A7 n7 c7, .slice A8 n8 c8, .string c, .int .i64 v], .int .i64 n, .int .i64 deep] w (Gives 2 w) := by
  go_enter Try.func72, Try.ntmps72
  go_wp2_with fail
  go_ret
  exact ⟨rfl, (Below.refl _ _).alloc (Nat.le_refl _) _⟩
theorem rown_over2 (h1 : (k == 11) = false) (h2 : decide (k < 1) = false) (h3 : decide (10 < k) = false) (h4 : decide (16384 ≤ n) = false) (h5 : decide (64 < deep) = true) : Calls Try.prog 72 #[.agg #[.int .i64 k, .bool b, .int .i64 i, .float .f64 f, .string s, .slice A5 n5 c5, .int .u64 r, .slice A7 n7 c7, .slice A8 n8 c8, .string c, .int .i64 v], .int .i64 n, .int .i64 deep] w (Gives 2 w) := by
  go_enter Try.func72, Try.ntmps72
  go_wp2_with fail
  go_ret
  exact ⟨rfl, (Below.refl _ _).alloc (Nat.le_refl _) _⟩
theorem rown_k1 (h4 : decide (16384 ≤ n) = false) (h5 : decide (64 < deep) = false) : Calls Try.prog 72 #[.agg #[.int .i64 1, .bool b, .int .i64 i, .float .f64 f, .string s, .slice A5 n5 c5, .int .u64 r, .slice A7 n7 c7, .slice A8 n8 c8, .string c, .int .i64 v], .int .i64 n, .int .i64 deep] w (Gives 0 w) := by
  go_enter Try.func72, Try.ntmps72
  go_wp2_with fail
  go_ret
  exact ⟨rfl, (Below.refl _ _).alloc (Nat.le_refl _) _⟩
theorem rown_k2 (h4 : decide (16384 ≤ n) = false) (h5 : decide (64 < deep) = false) : Calls Try.prog 72 #[.agg #[.int .i64 2, .bool b, .int .i64 i, .float .f64 f, .string s, .slice A5 n5 c5, .int .u64 r, .slice A7 n7 c7, .slice A8 n8 c8, .string c, .int .i64 v], .int .i64 n, .int .i64 deep] w (Gives 0 w) := by
  go_enter Try.func72, Try.ntmps72
  go_wp2_with fail
  go_ret
  exact ⟨rfl, (Below.refl _ _).alloc (Nat.le_refl _) _⟩
theorem rown_k3 (h4 : decide (16384 ≤ n) = false) (h5 : decide (64 < deep) = false) : Calls Try.prog 72 #[.agg #[.int .i64 3, .bool b, .int .i64 i, .float .f64 f, .string s, .slice A5 n5 c5, .int .u64 r, .slice A7 n7 c7, .slice A8 n8 c8, .string c, .int .i64 v], .int .i64 n, .int .i64 deep] w (Gives 0 w) := by
  go_enter Try.func72, Try.ntmps72
  go_wp2_with fail
  go_ret
  exact ⟨rfl, (Below.refl _ _).alloc (Nat.le_refl _) _⟩
theorem rown_k4 (h4 : decide (16384 ≤ n) = false) (h5 : decide (64 < deep) = false) : Calls Try.prog 72 #[.agg #[.int .i64 4, .bool b, .int .i64 i, .float .f64 f, .string s, .slice A5 n5 c5, .int .u64 r, .slice A7 n7 c7, .slice A8 n8 c8, .string c, .int .i64 v], .int .i64 n, .int .i64 deep] w (Gives 0 w) := by
  go_enter Try.func72, Try.ntmps72
  go_wp2_with fail
  go_ret
  exact ⟨rfl, (Below.refl _ _).alloc (Nat.le_refl _) _⟩
theorem rown_k7 (h4 : decide (16384 ≤ n) = false) (h5 : decide (64 < deep) = false) : Calls Try.prog 72 #[.agg #[.int .i64 7, .bool b, .int .i64 i, .float .f64 f, .string s, .slice A5 n5 c5, .int .u64 r, .slice A7 n7 c7, .slice A8 n8 c8, .string c, .int .i64 v], .int .i64 n, .int .i64 deep] w (Gives 0 w) := by
  go_enter Try.func72, Try.ntmps72
  go_wp2_with fail
  go_ret
  exact ⟨rfl, (Below.refl _ _).alloc (Nat.le_refl _) _⟩
theorem rown_k5_long (h4 : decide (16384 ≤ n) = false) (h5 : decide (64 < deep) = false) (h6 : decide ((65536 : Int) < (s.size : Int)) = true) : Calls Try.prog 72 #[.agg #[.int .i64 5, .bool b, .int .i64 i, .float .f64 f, .string s, .slice A5 n5 c5, .int .u64 r, .slice A7 n7 c7, .slice A8 n8 c8, .string c, .int .i64 v], .int .i64 n, .int .i64 deep] w (Gives 2 w) := by
  go_enter Try.func72, Try.ntmps72
  go_wp2_with fail
  go_ret
  exact ⟨rfl, (Below.refl _ _).alloc (Nat.le_refl _) _⟩
theorem rown_k5 (h4 : decide (16384 ≤ n) = false) (h5 : decide (64 < deep) = false) (h6 : decide ((65536 : Int) < (s.size : Int)) = false) : Calls Try.prog 72 #[.agg #[.int .i64 5, .bool b, .int .i64 i, .float .f64 f, .string s, .slice A5 n5 c5, .int .u64 r, .slice A7 n7 c7, .slice A8 n8 c8, .string c, .int .i64 v], .int .i64 n, .int .i64 deep] w (Gives 0 w) := by
  go_enter Try.func72, Try.ntmps72
  go_wp2_with fail
  go_ret
  exact ⟨rfl, (Below.refl _ _).alloc (Nat.le_refl _) _⟩
theorem rown_k6_long (h4 : decide (16384 ≤ n) = false) (h5 : decide (64 < deep) = false) (h6 : decide ((65536 : Int) < (n5 : Int)) = true) : Calls Try.prog 72 #[.agg #[.int .i64 6, .bool b, .int .i64 i, .float .f64 f, .string s, .slice A5 n5 c5, .int .u64 r, .slice A7 n7 c7, .slice A8 n8 c8, .string c, .int .i64 v], .int .i64 n, .int .i64 deep] w (Gives 2 w) := by
  go_enter Try.func72, Try.ntmps72
  go_wp2_with fail
  go_ret
  exact ⟨rfl, (Below.refl _ _).alloc (Nat.le_refl _) _⟩
theorem rown_k6 (h4 : decide (16384 ≤ n) = false) (h5 : decide (64 < deep) = false) (h6 : decide ((65536 : Int) < (n5 : Int)) = false) : Calls Try.prog 72 #[.agg #[.int .i64 6, .bool b, .int .i64 i, .float .f64 f, .string s, .slice A5 n5 c5, .int .u64 r, .slice A7 n7 c7, .slice A8 n8 c8, .string c, .int .i64 v], .int .i64 n, .int .i64 deep] w (Gives 0 w) := by
  go_enter Try.func72, Try.ntmps72
  go_wp2_with fail
  go_ret
  exact ⟨rfl, (Below.refl _ _).alloc (Nat.le_refl _) _⟩
theorem rown_k8_long (h4 : decide (16384 ≤ n) = false) (h5 : decide (64 < deep) = false) (h6 : decide ((4096 : Int) < (n7 : Int)) = true) : Calls Try.prog 72 #[.agg #[.int .i64 8, .bool b, .int .i64 i, .float .f64 f, .string s, .slice A5 n5 c5, .int .u64 r, .slice A7 n7 c7, .slice A8 n8 c8, .string c, .int .i64 v], .int .i64 n, .int .i64 deep] w (Gives 2 w) := by
  go_enter Try.func72, Try.ntmps72
  go_wp2_with fail
  go_ret
  exact ⟨rfl, (Below.refl _ _).alloc (Nat.le_refl _) _⟩
theorem rown_k8 (h4 : decide (16384 ≤ n) = false) (h5 : decide (64 < deep) = false) (h6 : decide ((4096 : Int) < (n7 : Int)) = false) : Calls Try.prog 72 #[.agg #[.int .i64 8, .bool b, .int .i64 i, .float .f64 f, .string s, .slice A5 n5 c5, .int .u64 r, .slice A7 n7 c7, .slice A8 n8 c8, .string c, .int .i64 v], .int .i64 n, .int .i64 deep] w (Gives 0 w) := by
  go_enter Try.func72, Try.ntmps72
  go_wp2_with fail
  go_ret
  exact ⟨rfl, (Below.refl _ _).alloc (Nat.le_refl _) _⟩
theorem rown_k10_name (h4 : decide (16384 ≤ n) = false) (h5 : decide (64 < deep) = false) (hn : ∀ w, Calls Try.prog 106 #[.string c] w (fun e w' => e = .returned (.bool false) ∧ w' = w)) : Calls Try.prog 72 #[.agg #[.int .i64 10, .bool b, .int .i64 i, .float .f64 f, .string s, .slice A5 n5 c5, .int .u64 r, .slice A7 n7 c7, .slice A8 n8 c8, .string c, .int .i64 v], .int .i64 n, .int .i64 deep] w (Gives 8 w) := by
  go_enter Try.func72, Try.ntmps72
  go_wp2_with (first | (go_at_call 106; refine (hn _).mono ?_; rintro e w1 ⟨rfl, rfl⟩))
  go_ret
  exact ⟨rfl, (Below.refl _ _).alloc (Nat.le_refl _) _⟩
theorem rown_k10_low (h4 : decide (16384 ≤ n) = false) (h5 : decide (64 < deep) = false) (hn : ∀ w, Calls Try.prog 106 #[.string c] w (fun e w' => e = .returned (.bool true) ∧ w' = w)) (h6 : decide (v < 1) = true) : Calls Try.prog 72 #[.agg #[.int .i64 10, .bool b, .int .i64 i, .float .f64 f, .string s, .slice A5 n5 c5, .int .u64 r, .slice A7 n7 c7, .slice A8 n8 c8, .string c, .int .i64 v], .int .i64 n, .int .i64 deep] w (Gives 1 w) := by
  go_enter Try.func72, Try.ntmps72
  go_wp2_with (first | (go_at_call 106; refine (hn _).mono ?_; rintro e w1 ⟨rfl, rfl⟩))
  go_ret
  exact ⟨rfl, (Below.refl _ _).alloc (Nat.le_refl _) _⟩
theorem rown_k10_high (h4 : decide (16384 ≤ n) = false) (h5 : decide (64 < deep) = false) (hn : ∀ w, Calls Try.prog 106 #[.string c] w (fun e w' => e = .returned (.bool true) ∧ w' = w)) (h6 : decide (v < 1) = false) (h7 : decide (1000 < v) = true) : Calls Try.prog 72 #[.agg #[.int .i64 10, .bool b, .int .i64 i, .float .f64 f, .string s, .slice A5 n5 c5, .int .u64 r, .slice A7 n7 c7, .slice A8 n8 c8, .string c, .int .i64 v], .int .i64 n, .int .i64 deep] w (Gives 1 w) := by
  go_enter Try.func72, Try.ntmps72
  go_wp2_with (first | (go_at_call 106; refine (hn _).mono ?_; rintro e w1 ⟨rfl, rfl⟩))
  go_ret
  exact ⟨rfl, (Below.refl _ _).alloc (Nat.le_refl _) _⟩
theorem rown_nine_long (h4 : decide (16384 ≤ n) = false) (h5 : decide (64 < deep) = false) (h8 : decide ((4096 : Int) < (n8 : Int)) = true) : Calls Try.prog 72 #[.agg #[.int .i64 9, .bool b, .int .i64 i, .float .f64 f, .string s, .slice A5 n5 c5, .int .u64 r, .slice A7 n7 c7, .slice A8 n8 c8, .string c, .int .i64 v], .int .i64 n, .int .i64 deep] w (Gives 2 w) := by
  go_enter Try.func72, Try.ntmps72
  go_wp2_with fail
  go_ret
  exact ⟨rfl, (Below.refl _ _).alloc (Nat.le_refl _) _⟩
theorem rown_nine_none (h4 : decide (16384 ≤ n) = false) (h5 : decide (64 < deep) = false) : Calls Try.prog 72 #[.agg #[.int .i64 9, .bool b, .int .i64 i, .float .f64 f, .string s, .slice A5 n5 c5, .int .u64 r, .slice A7 n7 c7, .slice A8 0 c8, .string c, .int .i64 v], .int .i64 n, .int .i64 deep] w (Gives 0 w) := by
  go_enter Try.func72, Try.ntmps72
  go_wp2_with fail
  go_loopw [7] (fun v7 wr => v7 = .int .i64 0 ∧ Below w.heap.size w wr ∧ wr.cell? ⟨w.heap.size, 8, none⟩ = some (.slice A8 0 c8)) (fun _ _ => 0)
  case atStart => exact ⟨rfl, (Below.refl _ _).alloc (Nat.le_refl _) _, by go_simp⟩
  case round =>
    obtain ⟨rfl, hbl, hc8⟩ := hrel
    go_wp2
    go_ret
    exact ⟨rfl, hbl⟩
theorem rown_fields_long (hk : k = 9 ∨ k = 10 ∧ decide (v < 1) = false ∧ decide (1000 < v) = false) (h4 : decide (16384 ≤ n) = false) (h5 : decide (64 < deep) = false) (hn : ∀ w, Calls Try.prog 106 #[.string c] w (fun e w' => e = .returned (.bool true) ∧ w' = w)) (h8 : decide ((4096 : Int) < (n8 : Int)) = true) : Calls Try.prog 72 #[.agg #[.int .i64 k, .bool b, .int .i64 i, .float .f64 f, .string s, .slice A5 n5 c5, .int .u64 r, .slice A7 n7 c7, .slice A8 n8 c8, .string c, .int .i64 v], .int .i64 n, .int .i64 deep] w (Gives 2 w) := by
  rcases hk with rfl | ⟨rfl, h6, h7⟩
  all_goals
    go_enter Try.func72, Try.ntmps72
    go_wp2_with (first | (go_at_call 106; refine (hn _).mono ?_; rintro e w1 ⟨rfl, rfl⟩))
    go_ret
    exact ⟨rfl, (Below.refl _ _).alloc (Nat.le_refl _) _⟩
theorem rown_fields_none (hk : k = 9 ∨ k = 10 ∧ decide (v < 1) = false ∧ decide (1000 < v) = false) (h4 : decide (16384 ≤ n) = false) (h5 : decide (64 < deep) = false) (hn : ∀ w, Calls Try.prog 106 #[.string c] w (fun e w' => e = .returned (.bool true) ∧ w' = w)) : Calls Try.prog 72 #[.agg #[.int .i64 k, .bool b, .int .i64 i, .float .f64 f, .string s, .slice A5 n5 c5, .int .u64 r, .slice A7 n7 c7, .slice A8 0 c8, .string c, .int .i64 v], .int .i64 n, .int .i64 deep] w (Gives 0 w) := by
  rcases hk with rfl | ⟨rfl, h6, h7⟩
  all_goals
    go_enter Try.func72, Try.ntmps72
    go_wp2_with (first | (go_at_call 106; refine (hn _).mono ?_; rintro e w1 ⟨rfl, rfl⟩))
    go_loopw [7] (fun v7 wr => v7 = .int .i64 0 ∧ Below w.heap.size w wr ∧ wr.cell? ⟨w.heap.size, 8, none⟩ = some (.slice A8 0 c8)) (fun _ _ => 0)
    case atStart => exact ⟨rfl, (Below.refl _ _).alloc (Nat.le_refl _) _, by go_simp⟩
    case round =>
      obtain ⟨rfl, hbl, hc8⟩ := hrel
      go_wp2
      go_ret
      exact ⟨rfl, hbl⟩
end

set_option maxRecDepth 20000 in
set_option maxHeartbeats 4000000 in
theorem rown_loop9 (b : Bool) (i : Int) (f : Nat) (s : ByteArray) (A5 : Option Addr) (n5 c5 : Nat) (r : Int) (A7 : Option Addr) (n7 c7 : Nat) (q off n8 c8 : Nat) (c : ByteArray) (v : Int) (n deep : Int) (w : World)
    (h4 : decide (16384 ≤ n) = false) (h5 : decide (64 < deep) = false) (h8 : decide ((4096 : Int) < (n8 : Int)) = false) (hq : q < w.heap.size)
    (ns : List ByteArray) (hl : ns.length = n8) (hcs : ∀ j, j < n8 → w.cell? ⟨q, off + j * 12, none⟩ = some (.string (ns.getD j ByteArray.empty))) (res : Int) (hres : (if namesOk ns then 0 else 8) = res) :
    Calls Try.prog 72 #[.agg #[.int .i64 9, .bool b, .int .i64 i, .float .f64 f, .string s, .slice A5 n5 c5, .int .u64 r, .slice A7 n7 c7, .slice (some ⟨q, off, none⟩) n8 c8, .string c, .int .i64 v], .int .i64 n, .int .i64 deep] w (Gives res w) := by
  have HRES := Lib.hid hres
  have HCS := Lib.hid hcs
  have hlen : n8 ≤ 4096 := by have := of_decide_eq_false h8; omega
  clear hres hcs
  go_enter Try.func72, Try.ntmps72
  go_wp2_with (first | (go_at_call 106; refine (hn _).mono ?_; rintro e w1 ⟨rfl, rfl⟩))
  clear h8
  have HAL := Lib.hid ((Below.refl w.heap.size w).alloc (Nat.le_refl _) (.cells #[.int .i64 9, .bool b, .int .i64 i, .float .f64 f, .string s, .slice A5 n5 c5, .int .u64 r, .slice A7 n7 c7, .slice (some ⟨q, off, none⟩) n8 c8, .string c, .int .i64 v] 31))
  go_loopw [7] (fun v7 wr => ∃ k1 : Nat, k1 ≤ n8 ∧ v7 = .int .i64 k1 ∧ (∀ i, i < k1 → goodAt ns i = true) ∧ Below (w.heap.size + 1) (w.alloc (.cells #[.int .i64 9, .bool b, .int .i64 i, .float .f64 f, .string s, .slice A5 n5 c5, .int .u64 r, .slice A7 n7 c7, .slice (some ⟨q, off, none⟩) n8 c8, .string c, .int .i64 v] 31)) wr) (fun v _ => n8 - (intOf v).toNat)
  case atStart => exact ⟨0, by omega, rfl, by simp, Below.refl _ _⟩
  case round =>
    obtain ⟨k1, hk, rfl, hall, hbl⟩ := hrel
    have HA := Lib.hid hall
    have HB1 := Lib.hid hbl
    have HBL := Lib.hid (hbl.mono (show w.heap.size ≤ w.heap.size + 1 by omega))
    clear hall
    have hc8 : wr.cell? ⟨w.heap.size, 8, none⟩ = some (.slice (some ⟨q, off, none⟩) n8 c8) := by
      rw [hbl.cell (p := ⟨w.heap.size, 8, none⟩) (show w.heap.size < w.heap.size + 1 by omega)]; exact (Blk.new w 31 _).cell 8
    have hwcell : ∀ j, j < n8 → wr.cell? ⟨q, off + j * 12, none⟩ = some (.string (ns.getD j ByteArray.empty)) := fun j hj => by
      rw [hbl.cell (p := ⟨q, off + j * 12, none⟩) (show q < w.heap.size + 1 by omega), HAL.out.cell (p := ⟨q, off + j * 12, none⟩) hq]; exact HCS.out j hj
    clear hbl
    by_cases hlt : k1 < n8
    · have hk0i : (0 : Int) ≤ (k1 : Int) := Int.natCast_nonneg _
      have hk1i : (k1 : Int) < (n8 : Int) := by omega
      have hn0 := hwcell k1 hlt
      have hp0 := hwcell (k1 - 1) (by omega)
      clear hwcell
      obtain ⟨nm, hnm0⟩ : ∃ nm, nm = ns.getD k1 ByteArray.empty := ⟨_, rfl⟩
      obtain ⟨p, hp⟩ : ∃ p, p = ns.getD (k1 - 1) ByteArray.empty := ⟨_, rfl⟩
      rw [← hnm0] at hn0
      rw [← hp] at hp0
      have HN := Lib.hid hnm0
      clear hnm0
      have good : nameOk nm = true → (k1 = 0 ∨ strLe nm p = false) → ∀ i, i < k1 + 1 → goodAt ns i = true := fun h1 h2 i hi => by
        by_cases e : i = k1
        · subst e
          unfold goodAt
          rw [← HN.out, ← hp, h1]
          rcases h2 with h2 | h2 <;> simp [h2]
        · exact HA.out i (by omega)
      have bad0 : nameOk nm = false → namesOk ns = false := fun h1 => by
        rw [namesOk, List.all_eq_false]
        exact ⟨k1, by simp; omega, by unfold goodAt; rw [← HN.out, h1]; simp⟩
      have bad : nameOk nm = true → (k1 = 0 ∧ False ∨ ¬ k1 = 0 ∧ strLe nm p = true) → namesOk ns = false := fun h1 h2 => by
        rw [namesOk, List.all_eq_false]
        refine ⟨k1, by simp; omega, ?_⟩
        rcases h2 with h2 | h2
        · exact h2.2.elim
        · unfold goodAt; rw [← HN.out, ← hp, h1, h2.2]; simp [h2.1]
      have GOOD := Lib.hid good
      have BAD0 := Lib.hid bad0
      have BAD := Lib.hid bad
      clear good bad bad0 hp
      by_cases hk0 : k1 = 0
      · subst hk0
        have e0 : ((0 : Nat) : Int) = 0 := rfl
        simp only [e0, Nat.zero_mul, Nat.add_zero] at hn0 hk1i ⊢
        clear e0
        go_wp2_with fail
        by_cases hnm : nameOk nm = true
        · skip
          have HNN : Hid (∀ s w, s = nm → Calls Try.prog 106 #[.string s] w (fun e w' => e = .returned (.bool true) ∧ w' = w)) := Lib.hid fun s w hs => by rw [hs, ← hnm]; exact rname_any nm w
          refine wp_region_held_drew (S := (fun w' => w'.cell? ⟨w.heap.size, 8, none⟩ = some (.slice (some ⟨q, off, none⟩) n8 c8) ∧ w'.cell? ⟨q, off, none⟩ = some (.string nm))) (by kernel_rfl) ⟨hc8, hn0⟩ (fun hHeld => ?_)
          refine held_take (i := 0) (v := ?_) rfl (by kernel_rfl) (by kernel_rfl) (by kernel_rfl) (fun _ _ _ h => h) (by kernel_rfl) ?_ hHeld ?_; rotate_left; focus (((intro w hSw; (try dsimp only at hSw); go_simp) <;> with_reducible rfl); done)
          (try simp only [Act.put, List.setIfInBounds_toArray, List.set_cons_zero, List.set_cons_succ])
          refine held_take (i := 1) (v := ?_) rfl (by kernel_rfl) (by kernel_rfl) (by kernel_rfl) (fun _ _ _ h => h) (by kernel_rfl) ?_ hHeld ?_; rotate_left; focus (((intro w hSw; (try dsimp only at hSw); go_simp) <;> with_reducible rfl); done)
          (try simp only [Act.put, List.setIfInBounds_toArray, List.set_cons_zero, List.set_cons_succ])
          refine held_take (i := 2) (v := ?_) rfl (by kernel_rfl) (by kernel_rfl) (by kernel_rfl) (fun _ _ _ h => h) (by kernel_rfl) ?_ hHeld ?_; rotate_left; focus (((intro w hSw; (try dsimp only at hSw); go_simp) <;> with_reducible rfl); done)
          (try simp only [Act.put, List.setIfInBounds_toArray, List.set_cons_zero, List.set_cons_succ])
          refine held_take (i := 3) (v := ?_) rfl (by kernel_rfl) (by kernel_rfl) (by kernel_rfl) (fun _ _ _ h => h) (by kernel_rfl) ?_ hHeld ?_; rotate_left; focus (((intro w hSw; (try dsimp only at hSw); go_simp) <;> with_reducible rfl); done)
          (try simp only [Act.put, List.setIfInBounds_toArray, List.set_cons_zero, List.set_cons_succ])
          refine held_take (i := 4) (v := ?_) rfl (by kernel_rfl) (by kernel_rfl) (by kernel_rfl) (fun _ _ _ h => h) (by kernel_rfl) ?_ hHeld ?_; rotate_left; focus (((intro w hSw; (try dsimp only at hSw); go_simp) <;> with_reducible rfl); done)
          (try simp only [Act.put, List.setIfInBounds_toArray, List.set_cons_zero, List.set_cons_succ])
          refine held_take (i := 5) (v := ?_) rfl (by kernel_rfl) (by kernel_rfl) (by kernel_rfl) (fun _ _ _ h => h) (by kernel_rfl) ?_ hHeld ?_; rotate_left; focus (((intro w hSw; (try dsimp only at hSw); go_simp) <;> with_reducible rfl); done)
          (try simp only [Act.put, List.setIfInBounds_toArray, List.set_cons_zero, List.set_cons_succ])
          refine held_call (i := 6) rfl (by kernel_rfl) (by kernel_rfl) (fun K hK => ?_)
          go_simp
          (refine (HNN.out _ _ rfl).mono ?_; rintro e w1 ⟨rfl, rfl⟩)
          refine hK.out _ _ ?_ (fun hHeld2 => ?_)
          · exact hHeld
          clear hK K hHeld
          have hHeld := hHeld2
          clear hHeld2
          (try simp only [Act.put, List.setIfInBounds_toArray, List.set_cons_zero, List.set_cons_succ])
          refine held_take (i := 7) (v := ?_) rfl (by kernel_rfl) (by kernel_rfl) (by kernel_rfl) (fun _ _ _ h => h) (by kernel_rfl) ?_ hHeld ?_; rotate_left; focus (((intro w hSw; (try dsimp only at hSw); go_simp) <;> with_reducible rfl); done)
          (try simp only [Act.put, List.setIfInBounds_toArray, List.set_cons_zero, List.set_cons_succ])
          refine held_take (i := 8) (v := ?_) rfl (by kernel_rfl) (by kernel_rfl) (by kernel_rfl) (fun _ _ _ h => h) (by kernel_rfl) ?_ hHeld ?_; rotate_left; focus (((intro w hSw; (try dsimp only at hSw); go_simp) <;> with_reducible rfl); done)
          (try simp only [Act.put, List.setIfInBounds_toArray, List.set_cons_zero, List.set_cons_succ])
          refine held_take (i := 9) (v := ?_) rfl (by kernel_rfl) (by kernel_rfl) (by kernel_rfl) (fun _ _ _ h => h) (by kernel_rfl) ?_ hHeld ?_; rotate_left; focus (((intro w hSw; (try dsimp only at hSw); go_simp) <;> with_reducible rfl); done)
          (try simp only [Act.put, List.setIfInBounds_toArray, List.set_cons_zero, List.set_cons_succ])
          refine held_take (i := 10) (v := ?_) rfl (by kernel_rfl) (by kernel_rfl) (by kernel_rfl) (fun _ _ _ h => h) (by kernel_rfl) ?_ hHeld ?_; rotate_left; focus (((intro w hSw; (try dsimp only at hSw); go_simp) <;> with_reducible rfl); done)
          (try simp only [Act.put, List.setIfInBounds_toArray, List.set_cons_zero, List.set_cons_succ])
          refine held_take (i := 11) (v := ?_) rfl (by kernel_rfl) (by kernel_rfl) (by kernel_rfl) (fun _ _ _ h => h) (by kernel_rfl) ?_ hHeld ?_; rotate_left; focus (((intro w hSw; (try dsimp only at hSw); go_simp) <;> with_reducible rfl); done)
          (try simp only [Act.put, List.setIfInBounds_toArray, List.set_cons_zero, List.set_cons_succ])
          refine held_skip (i := 12) rfl (by kernel_rfl) (by kernel_rfl) (by kernel_rfl) (fun _ _ _ h => h) (by kernel_rfl) hHeld ?_
          (try simp only [Act.put, List.setIfInBounds_toArray, List.set_cons_zero, List.set_cons_succ])
          refine held_skip (i := 13) rfl (by kernel_rfl) (by kernel_rfl) (by kernel_rfl) (fun _ _ _ h => h) (by kernel_rfl) hHeld ?_
          (try simp only [Act.put, List.setIfInBounds_toArray, List.set_cons_zero, List.set_cons_succ])
          refine held_skip (i := 14) rfl (by kernel_rfl) (by kernel_rfl) (by kernel_rfl) (fun _ _ _ h => h) (by kernel_rfl) hHeld ?_
          (try simp only [Act.put, List.setIfInBounds_toArray, List.set_cons_zero, List.set_cons_succ])
          refine held_skip (i := 15) rfl (by kernel_rfl) (by kernel_rfl) (by kernel_rfl) (fun _ _ _ h => h) (by kernel_rfl) hHeld ?_
          (try simp only [Act.put, List.setIfInBounds_toArray, List.set_cons_zero, List.set_cons_succ])
          refine held_skip (i := 16) rfl (by kernel_rfl) (by kernel_rfl) (by kernel_rfl) (fun _ _ _ h => h) (by kernel_rfl) hHeld ?_
          (try simp only [Act.put, List.setIfInBounds_toArray, List.set_cons_zero, List.set_cons_succ])
          refine held_skip (i := 17) rfl (by kernel_rfl) (by kernel_rfl) (by kernel_rfl) (fun _ _ _ h => h) (by kernel_rfl) hHeld ?_
          (try simp only [Act.put, List.setIfInBounds_toArray, List.set_cons_zero, List.set_cons_succ])
          refine held_skip (i := 18) rfl (by kernel_rfl) (by kernel_rfl) (by kernel_rfl) (fun _ _ _ h => h) (by kernel_rfl) hHeld ?_
          (try simp only [Act.put, List.setIfInBounds_toArray, List.set_cons_zero, List.set_cons_succ])
          refine held_skip (i := 19) rfl (by kernel_rfl) (by kernel_rfl) (by kernel_rfl) (fun _ _ _ h => h) (by kernel_rfl) hHeld ?_
          (try simp only [Act.put, List.setIfInBounds_toArray, List.set_cons_zero, List.set_cons_succ])
          refine held_skip (i := 20) rfl (by kernel_rfl) (by kernel_rfl) (by kernel_rfl) (fun _ _ _ h => h) (by kernel_rfl) hHeld ?_
          (try simp only [Act.put, List.setIfInBounds_toArray, List.set_cons_zero, List.set_cons_succ])
          refine held_skip (i := 21) rfl (by kernel_rfl) (by kernel_rfl) (by kernel_rfl) (fun _ _ _ h => h) (by kernel_rfl) hHeld ?_
          (try simp only [Act.put, List.setIfInBounds_toArray, List.set_cons_zero, List.set_cons_succ])
          refine held_skip (i := 22) rfl (by kernel_rfl) (by kernel_rfl) (by kernel_rfl) (fun _ _ _ h => h) (by kernel_rfl) hHeld ?_
          (try simp only [Act.put, List.setIfInBounds_toArray, List.set_cons_zero, List.set_cons_succ])
          refine held_skip (i := 23) rfl (by kernel_rfl) (by kernel_rfl) (by kernel_rfl) (fun _ _ _ h => h) (by kernel_rfl) hHeld ?_
          (try simp only [Act.put, List.setIfInBounds_toArray, List.set_cons_zero, List.set_cons_succ])
          refine held_skip (i := 24) rfl (by kernel_rfl) (by kernel_rfl) (by kernel_rfl) (fun _ _ _ h => h) (by kernel_rfl) hHeld ?_
          (try simp only [Act.put, List.setIfInBounds_toArray, List.set_cons_zero, List.set_cons_succ])
          refine held_skip (i := 25) rfl (by kernel_rfl) (by kernel_rfl) (by kernel_rfl) (fun _ _ _ h => h) (by kernel_rfl) hHeld ?_
          (try simp only [Act.put, List.setIfInBounds_toArray, List.set_cons_zero, List.set_cons_succ])
          refine held_take (i := 26) (v := ?_) rfl (by kernel_rfl) (by kernel_rfl) (by kernel_rfl) (fun _ _ _ h => h) (by kernel_rfl) ?_ hHeld ?_; rotate_left; focus (((intro w hSw; (try dsimp only at hSw); go_simp) <;> with_reducible rfl); done)
          (try simp only [Act.put, List.setIfInBounds_toArray, List.set_cons_zero, List.set_cons_succ])
          refine held_take (i := 27) (v := ?_) rfl (by kernel_rfl) (by kernel_rfl) (by kernel_rfl) (fun _ _ _ h => h) (by kernel_rfl) ?_ hHeld ?_; rotate_left; focus (((intro w hSw; (try dsimp only at hSw); go_simp) <;> with_reducible rfl); done)
          (try simp only [Act.put, List.setIfInBounds_toArray, List.set_cons_zero, List.set_cons_succ])
          refine wpAnyH_done (by kernel_rfl) ?_ _
          go_wp2
          go_roundw
          case rel => exact ⟨0 + 1, by omega, by go_num, GOOD.out hnm (Or.inl (by trivial)), by have := HB1.out; exact ⟨this.os, this.tape, this.output, this.size, this.block⟩⟩
          case measure => simp [intOf]; omega
        · skip
          have HNN : Hid (∀ s w, s = nm → Calls Try.prog 106 #[.string s] w (fun e w' => e = .returned (.bool false) ∧ w' = w)) := Lib.hid fun s w hs => by rw [hs, ← Bool.eq_false_iff.2 hnm]; exact rname_any nm w
          refine wp_region_held_drew (S := (fun w' => w'.cell? ⟨w.heap.size, 8, none⟩ = some (.slice (some ⟨q, off, none⟩) n8 c8) ∧ w'.cell? ⟨q, off, none⟩ = some (.string nm))) (by kernel_rfl) ⟨hc8, hn0⟩ (fun hHeld => ?_)
          refine held_take (i := 0) (v := ?_) rfl (by kernel_rfl) (by kernel_rfl) (by kernel_rfl) (fun _ _ _ h => h) (by kernel_rfl) ?_ hHeld ?_; rotate_left; focus (((intro w hSw; (try dsimp only at hSw); go_simp) <;> with_reducible rfl); done)
          (try simp only [Act.put, List.setIfInBounds_toArray, List.set_cons_zero, List.set_cons_succ])
          refine held_take (i := 1) (v := ?_) rfl (by kernel_rfl) (by kernel_rfl) (by kernel_rfl) (fun _ _ _ h => h) (by kernel_rfl) ?_ hHeld ?_; rotate_left; focus (((intro w hSw; (try dsimp only at hSw); go_simp) <;> with_reducible rfl); done)
          (try simp only [Act.put, List.setIfInBounds_toArray, List.set_cons_zero, List.set_cons_succ])
          refine held_take (i := 2) (v := ?_) rfl (by kernel_rfl) (by kernel_rfl) (by kernel_rfl) (fun _ _ _ h => h) (by kernel_rfl) ?_ hHeld ?_; rotate_left; focus (((intro w hSw; (try dsimp only at hSw); go_simp) <;> with_reducible rfl); done)
          (try simp only [Act.put, List.setIfInBounds_toArray, List.set_cons_zero, List.set_cons_succ])
          refine held_take (i := 3) (v := ?_) rfl (by kernel_rfl) (by kernel_rfl) (by kernel_rfl) (fun _ _ _ h => h) (by kernel_rfl) ?_ hHeld ?_; rotate_left; focus (((intro w hSw; (try dsimp only at hSw); go_simp) <;> with_reducible rfl); done)
          (try simp only [Act.put, List.setIfInBounds_toArray, List.set_cons_zero, List.set_cons_succ])
          refine held_take (i := 4) (v := ?_) rfl (by kernel_rfl) (by kernel_rfl) (by kernel_rfl) (fun _ _ _ h => h) (by kernel_rfl) ?_ hHeld ?_; rotate_left; focus (((intro w hSw; (try dsimp only at hSw); go_simp) <;> with_reducible rfl); done)
          (try simp only [Act.put, List.setIfInBounds_toArray, List.set_cons_zero, List.set_cons_succ])
          refine held_take (i := 5) (v := ?_) rfl (by kernel_rfl) (by kernel_rfl) (by kernel_rfl) (fun _ _ _ h => h) (by kernel_rfl) ?_ hHeld ?_; rotate_left; focus (((intro w hSw; (try dsimp only at hSw); go_simp) <;> with_reducible rfl); done)
          (try simp only [Act.put, List.setIfInBounds_toArray, List.set_cons_zero, List.set_cons_succ])
          refine held_call (i := 6) rfl (by kernel_rfl) (by kernel_rfl) (fun K hK => ?_)
          go_simp
          (refine (HNN.out _ _ rfl).mono ?_; rintro e w1 ⟨rfl, rfl⟩)
          refine hK.out _ _ ?_ (fun hHeld2 => ?_)
          · exact hHeld
          clear hK K hHeld
          have hHeld := hHeld2
          clear hHeld2
          (try simp only [Act.put, List.setIfInBounds_toArray, List.set_cons_zero, List.set_cons_succ])
          refine held_take (i := 7) (v := ?_) rfl (by kernel_rfl) (by kernel_rfl) (by kernel_rfl) (fun _ _ _ h => h) (by kernel_rfl) ?_ hHeld ?_; rotate_left; focus (((intro w hSw; (try dsimp only at hSw); go_simp) <;> with_reducible rfl); done)
          (try simp only [Act.put, List.setIfInBounds_toArray, List.set_cons_zero, List.set_cons_succ])
          refine held_take (i := 8) (v := ?_) rfl (by kernel_rfl) (by kernel_rfl) (by kernel_rfl) (fun _ _ _ h => h) (by kernel_rfl) ?_ hHeld ?_; rotate_left; focus (((intro w hSw; (try dsimp only at hSw); go_simp) <;> with_reducible rfl); done)
          (try simp only [Act.put, List.setIfInBounds_toArray, List.set_cons_zero, List.set_cons_succ])
          refine held_skip (i := 9) rfl (by kernel_rfl) (by kernel_rfl) (by kernel_rfl) (fun _ _ _ h => h) (by kernel_rfl) hHeld ?_
          (try simp only [Act.put, List.setIfInBounds_toArray, List.set_cons_zero, List.set_cons_succ])
          refine held_skip (i := 10) rfl (by kernel_rfl) (by kernel_rfl) (by kernel_rfl) (fun _ _ _ h => h) (by kernel_rfl) hHeld ?_
          (try simp only [Act.put, List.setIfInBounds_toArray, List.set_cons_zero, List.set_cons_succ])
          refine held_skip (i := 11) rfl (by kernel_rfl) (by kernel_rfl) (by kernel_rfl) (fun _ _ _ h => h) (by kernel_rfl) hHeld ?_
          (try simp only [Act.put, List.setIfInBounds_toArray, List.set_cons_zero, List.set_cons_succ])
          refine held_skip (i := 12) rfl (by kernel_rfl) (by kernel_rfl) (by kernel_rfl) (fun _ _ _ h => h) (by kernel_rfl) hHeld ?_
          (try simp only [Act.put, List.setIfInBounds_toArray, List.set_cons_zero, List.set_cons_succ])
          refine held_skip (i := 13) rfl (by kernel_rfl) (by kernel_rfl) (by kernel_rfl) (fun _ _ _ h => h) (by kernel_rfl) hHeld ?_
          (try simp only [Act.put, List.setIfInBounds_toArray, List.set_cons_zero, List.set_cons_succ])
          refine held_skip (i := 14) rfl (by kernel_rfl) (by kernel_rfl) (by kernel_rfl) (fun _ _ _ h => h) (by kernel_rfl) hHeld ?_
          (try simp only [Act.put, List.setIfInBounds_toArray, List.set_cons_zero, List.set_cons_succ])
          refine held_skip (i := 15) rfl (by kernel_rfl) (by kernel_rfl) (by kernel_rfl) (fun _ _ _ h => h) (by kernel_rfl) hHeld ?_
          (try simp only [Act.put, List.setIfInBounds_toArray, List.set_cons_zero, List.set_cons_succ])
          refine held_skip (i := 16) rfl (by kernel_rfl) (by kernel_rfl) (by kernel_rfl) (fun _ _ _ h => h) (by kernel_rfl) hHeld ?_
          (try simp only [Act.put, List.setIfInBounds_toArray, List.set_cons_zero, List.set_cons_succ])
          refine held_skip (i := 17) rfl (by kernel_rfl) (by kernel_rfl) (by kernel_rfl) (fun _ _ _ h => h) (by kernel_rfl) hHeld ?_
          (try simp only [Act.put, List.setIfInBounds_toArray, List.set_cons_zero, List.set_cons_succ])
          refine held_skip (i := 18) rfl (by kernel_rfl) (by kernel_rfl) (by kernel_rfl) (fun _ _ _ h => h) (by kernel_rfl) hHeld ?_
          (try simp only [Act.put, List.setIfInBounds_toArray, List.set_cons_zero, List.set_cons_succ])
          refine held_skip (i := 19) rfl (by kernel_rfl) (by kernel_rfl) (by kernel_rfl) (fun _ _ _ h => h) (by kernel_rfl) hHeld ?_
          (try simp only [Act.put, List.setIfInBounds_toArray, List.set_cons_zero, List.set_cons_succ])
          refine held_skip (i := 20) rfl (by kernel_rfl) (by kernel_rfl) (by kernel_rfl) (fun _ _ _ h => h) (by kernel_rfl) hHeld ?_
          (try simp only [Act.put, List.setIfInBounds_toArray, List.set_cons_zero, List.set_cons_succ])
          refine held_skip (i := 21) rfl (by kernel_rfl) (by kernel_rfl) (by kernel_rfl) (fun _ _ _ h => h) (by kernel_rfl) hHeld ?_
          (try simp only [Act.put, List.setIfInBounds_toArray, List.set_cons_zero, List.set_cons_succ])
          refine held_skip (i := 22) rfl (by kernel_rfl) (by kernel_rfl) (by kernel_rfl) (fun _ _ _ h => h) (by kernel_rfl) hHeld ?_
          (try simp only [Act.put, List.setIfInBounds_toArray, List.set_cons_zero, List.set_cons_succ])
          refine held_skip (i := 23) rfl (by kernel_rfl) (by kernel_rfl) (by kernel_rfl) (fun _ _ _ h => h) (by kernel_rfl) hHeld ?_
          (try simp only [Act.put, List.setIfInBounds_toArray, List.set_cons_zero, List.set_cons_succ])
          refine held_skip (i := 24) rfl (by kernel_rfl) (by kernel_rfl) (by kernel_rfl) (fun _ _ _ h => h) (by kernel_rfl) hHeld ?_
          (try simp only [Act.put, List.setIfInBounds_toArray, List.set_cons_zero, List.set_cons_succ])
          refine held_skip (i := 25) rfl (by kernel_rfl) (by kernel_rfl) (by kernel_rfl) (fun _ _ _ h => h) (by kernel_rfl) hHeld ?_
          (try simp only [Act.put, List.setIfInBounds_toArray, List.set_cons_zero, List.set_cons_succ])
          refine held_skip (i := 26) rfl (by kernel_rfl) (by kernel_rfl) (by kernel_rfl) (fun _ _ _ h => h) (by kernel_rfl) hHeld ?_
          (try simp only [Act.put, List.setIfInBounds_toArray, List.set_cons_zero, List.set_cons_succ])
          refine held_take (i := 27) (v := ?_) rfl (by kernel_rfl) (by kernel_rfl) (by kernel_rfl) (fun _ _ _ h => h) (by kernel_rfl) ?_ hHeld ?_; rotate_left; focus (((intro w hSw; (try dsimp only at hSw); go_simp) <;> with_reducible rfl); done)
          (try simp only [Act.put, List.setIfInBounds_toArray, List.set_cons_zero, List.set_cons_succ])
          refine wpAnyH_done (by kernel_rfl) ?_ _
          go_wp2
          go_ret
          exact ⟨by rw [← HRES.out, BAD0.out (Bool.eq_false_iff.2 hnm)]; rfl, by have := HAL.out.trans HBL.out; exact ⟨this.os, this.tape, this.output, this.size, this.block⟩⟩
      · have b1 : decide (0 < (k1 : Int)) = true := by simp; omega
        have b1' : decide (0 < k1) = true := by simp; omega
        obtain ⟨m, hm⟩ : ∃ m, m = k1 - 1 := ⟨_, rfl⟩
        have hwr : IntKind.i64.wrap ((k1 : Int) - 1) = (m : Int) := by rw [hm]; (have : (k1 : Int) - 1 = ((k1 - 1 : Nat) : Int) := by omega); rw [this]; exact IntWalk.i64_in _ ⟨by omega, by omega⟩
        have hk1' : (0 : Int) ≤ (m : Int) := by omega
        have hk2' : (m : Int) < (n8 : Int) := by omega
        rw [← hm] at hp0
        clear hm
        go_wp2_with fail
        by_cases hnm : nameOk nm = true
        · skip
          have HNN : Hid (∀ s w, s = nm → Calls Try.prog 106 #[.string s] w (fun e w' => e = .returned (.bool true) ∧ w' = w)) := Lib.hid fun s w hs => by rw [hs, ← hnm]; exact rname_any nm w
          refine wp_region_held_drew (S := (fun w' => w'.cell? ⟨w.heap.size, 8, none⟩ = some (.slice (some ⟨q, off, none⟩) n8 c8) ∧ w'.cell? ⟨q, off + k1 * 12, none⟩ = some (.string nm) ∧ w'.cell? ⟨q, off + m * 12, none⟩ = some (.string p))) (by kernel_rfl) ⟨hc8, hn0, hp0⟩ (fun hHeld => ?_)
          refine held_take (i := 0) (v := ?_) rfl (by kernel_rfl) (by kernel_rfl) (by kernel_rfl) (fun _ _ _ h => h) (by kernel_rfl) ?_ hHeld ?_; rotate_left; focus (((intro w hSw; (try dsimp only at hSw); go_simp) <;> with_reducible rfl); done)
          (try simp only [Act.put, List.setIfInBounds_toArray, List.set_cons_zero, List.set_cons_succ])
          refine held_take (i := 1) (v := ?_) rfl (by kernel_rfl) (by kernel_rfl) (by kernel_rfl) (fun _ _ _ h => h) (by kernel_rfl) ?_ hHeld ?_; rotate_left; focus (((intro w hSw; (try dsimp only at hSw); go_simp) <;> with_reducible rfl); done)
          (try simp only [Act.put, List.setIfInBounds_toArray, List.set_cons_zero, List.set_cons_succ])
          refine held_take (i := 2) (v := ?_) rfl (by kernel_rfl) (by kernel_rfl) (by kernel_rfl) (fun _ _ _ h => h) (by kernel_rfl) ?_ hHeld ?_; rotate_left; focus (((intro w hSw; (try dsimp only at hSw); go_simp) <;> with_reducible rfl); done)
          (try simp only [Act.put, List.setIfInBounds_toArray, List.set_cons_zero, List.set_cons_succ])
          refine held_take (i := 3) (v := ?_) rfl (by kernel_rfl) (by kernel_rfl) (by kernel_rfl) (fun _ _ _ h => h) (by kernel_rfl) ?_ hHeld ?_; rotate_left; focus (((intro w hSw; (try dsimp only at hSw); go_simp) <;> with_reducible rfl); done)
          (try simp only [Act.put, List.setIfInBounds_toArray, List.set_cons_zero, List.set_cons_succ])
          refine held_take (i := 4) (v := ?_) rfl (by kernel_rfl) (by kernel_rfl) (by kernel_rfl) (fun _ _ _ h => h) (by kernel_rfl) ?_ hHeld ?_; rotate_left; focus (((intro w hSw; (try dsimp only at hSw); go_simp) <;> with_reducible rfl); done)
          (try simp only [Act.put, List.setIfInBounds_toArray, List.set_cons_zero, List.set_cons_succ])
          refine held_take (i := 5) (v := ?_) rfl (by kernel_rfl) (by kernel_rfl) (by kernel_rfl) (fun _ _ _ h => h) (by kernel_rfl) ?_ hHeld ?_; rotate_left; focus (((intro w hSw; (try dsimp only at hSw); go_simp) <;> with_reducible rfl); done)
          (try simp only [Act.put, List.setIfInBounds_toArray, List.set_cons_zero, List.set_cons_succ])
          refine held_call (i := 6) rfl (by kernel_rfl) (by kernel_rfl) (fun K hK => ?_)
          go_simp
          (refine (HNN.out _ _ rfl).mono ?_; rintro e w1 ⟨rfl, rfl⟩)
          refine hK.out _ _ ?_ (fun hHeld2 => ?_)
          · exact hHeld
          clear hK K hHeld
          have hHeld := hHeld2
          clear hHeld2
          (try simp only [Act.put, List.setIfInBounds_toArray, List.set_cons_zero, List.set_cons_succ])
          refine held_take (i := 7) (v := ?_) rfl (by kernel_rfl) (by kernel_rfl) (by kernel_rfl) (fun _ _ _ h => h) (by kernel_rfl) ?_ hHeld ?_; rotate_left; focus (((intro w hSw; (try dsimp only at hSw); go_simp) <;> with_reducible rfl); done)
          (try simp only [Act.put, List.setIfInBounds_toArray, List.set_cons_zero, List.set_cons_succ])
          refine held_take (i := 8) (v := ?_) rfl (by kernel_rfl) (by kernel_rfl) (by kernel_rfl) (fun _ _ _ h => h) (by kernel_rfl) ?_ hHeld ?_; rotate_left; focus (((intro w hSw; (try dsimp only at hSw); go_simp) <;> with_reducible rfl); done)
          (try simp only [Act.put, List.setIfInBounds_toArray, List.set_cons_zero, List.set_cons_succ])
          refine held_take (i := 9) (v := ?_) rfl (by kernel_rfl) (by kernel_rfl) (by kernel_rfl) (fun _ _ _ h => h) (by kernel_rfl) ?_ hHeld ?_; rotate_left; focus (((intro w hSw; (try dsimp only at hSw); go_simp) <;> with_reducible rfl); done)
          (try simp only [Act.put, List.setIfInBounds_toArray, List.set_cons_zero, List.set_cons_succ])
          refine held_take (i := 10) (v := ?_) rfl (by kernel_rfl) (by kernel_rfl) (by kernel_rfl) (fun _ _ _ h => h) (by kernel_rfl) ?_ hHeld ?_; rotate_left; focus (((intro w hSw; (try dsimp only at hSw); go_simp) <;> with_reducible rfl); done)
          (try simp only [Act.put, List.setIfInBounds_toArray, List.set_cons_zero, List.set_cons_succ])
          refine held_take (i := 11) (v := ?_) rfl (by kernel_rfl) (by kernel_rfl) (by kernel_rfl) (fun _ _ _ h => h) (by kernel_rfl) ?_ hHeld ?_; rotate_left; focus (((intro w hSw; (try dsimp only at hSw); go_simp) <;> with_reducible rfl); done)
          (try simp only [Act.put, List.setIfInBounds_toArray, List.set_cons_zero, List.set_cons_succ])
          refine held_take (i := 12) (v := ?_) rfl (by kernel_rfl) (by kernel_rfl) (by kernel_rfl) (fun _ _ _ h => h) (by kernel_rfl) ?_ hHeld ?_; rotate_left; focus (((intro w hSw; (try dsimp only at hSw); go_simp) <;> with_reducible rfl); done)
          (try simp only [Act.put, List.setIfInBounds_toArray, List.set_cons_zero, List.set_cons_succ])
          refine held_take (i := 13) (v := ?_) rfl (by kernel_rfl) (by kernel_rfl) (by kernel_rfl) (fun _ _ _ h => h) (by kernel_rfl) ?_ hHeld ?_; rotate_left; focus (((intro w hSw; (try dsimp only at hSw); go_simp) <;> with_reducible rfl); done)
          (try simp only [Act.put, List.setIfInBounds_toArray, List.set_cons_zero, List.set_cons_succ])
          refine held_take (i := 14) (v := ?_) rfl (by kernel_rfl) (by kernel_rfl) (by kernel_rfl) (fun _ _ _ h => h) (by kernel_rfl) ?_ hHeld ?_; rotate_left; focus (((intro w hSw; (try dsimp only at hSw); go_simp) <;> with_reducible rfl); done)
          (try simp only [Act.put, List.setIfInBounds_toArray, List.set_cons_zero, List.set_cons_succ])
          refine held_take (i := 15) (v := ?_) rfl (by kernel_rfl) (by kernel_rfl) (by kernel_rfl) (fun _ _ _ h => h) (by kernel_rfl) ?_ hHeld ?_; rotate_left; focus (((intro w hSw; (try dsimp only at hSw); go_simp) <;> with_reducible rfl); done)
          (try simp only [Act.put, List.setIfInBounds_toArray, List.set_cons_zero, List.set_cons_succ])
          refine held_take (i := 16) (v := ?_) rfl (by kernel_rfl) (by kernel_rfl) (by kernel_rfl) (fun _ _ _ h => h) (by kernel_rfl) ?_ hHeld ?_; rotate_left; focus (((intro w hSw; (try dsimp only at hSw); go_simp) <;> with_reducible rfl); done)
          (try simp only [Act.put, List.setIfInBounds_toArray, List.set_cons_zero, List.set_cons_succ])
          refine held_take (i := 17) (v := ?_) rfl (by kernel_rfl) (by kernel_rfl) (by kernel_rfl) (fun _ _ _ h => h) (by kernel_rfl) ?_ hHeld ?_; rotate_left; focus (((intro w hSw; (try dsimp only at hSw); go_simp) <;> with_reducible rfl); done)
          (try simp only [Act.put, List.setIfInBounds_toArray, List.set_cons_zero, List.set_cons_succ])
          refine held_take (i := 18) (v := ?_) rfl (by kernel_rfl) (by kernel_rfl) (by kernel_rfl) (fun _ _ _ h => h) (by kernel_rfl) ?_ hHeld ?_; rotate_left; focus (((intro w hSw; (try dsimp only at hSw); go_simp) <;> with_reducible rfl); done)
          (try simp only [Act.put, List.setIfInBounds_toArray, List.set_cons_zero, List.set_cons_succ])
          refine held_take (i := 19) (v := ?_) rfl (by kernel_rfl) (by kernel_rfl) (by kernel_rfl) (fun _ _ _ h => h) (by kernel_rfl) ?_ hHeld ?_; rotate_left; focus (((intro w hSw; (try dsimp only at hSw); go_simp) <;> with_reducible rfl); done)
          (try simp only [Act.put, List.setIfInBounds_toArray, List.set_cons_zero, List.set_cons_succ])
          refine held_take (i := 20) (v := ?_) rfl (by kernel_rfl) (by kernel_rfl) (by kernel_rfl) (fun _ _ _ h => h) (by kernel_rfl) ?_ hHeld ?_; rotate_left; focus (((intro w hSw; (try dsimp only at hSw); go_simp) <;> with_reducible rfl); done)
          (try simp only [Act.put, List.setIfInBounds_toArray, List.set_cons_zero, List.set_cons_succ])
          refine held_take (i := 21) (v := ?_) rfl (by kernel_rfl) (by kernel_rfl) (by kernel_rfl) (fun _ _ _ h => h) (by kernel_rfl) ?_ hHeld ?_; rotate_left; focus (((intro w hSw; (try dsimp only at hSw); go_simp) <;> with_reducible rfl); done)
          (try simp only [Act.put, List.setIfInBounds_toArray, List.set_cons_zero, List.set_cons_succ])
          refine held_take (i := 22) (v := ?_) rfl (by kernel_rfl) (by kernel_rfl) (by kernel_rfl) (fun _ _ _ h => h) (by kernel_rfl) ?_ hHeld ?_; rotate_left; focus (((intro w hSw; (try dsimp only at hSw); go_simp) <;> with_reducible rfl); done)
          (try simp only [Act.put, List.setIfInBounds_toArray, List.set_cons_zero, List.set_cons_succ])
          refine held_take (i := 23) (v := ?_) rfl (by kernel_rfl) (by kernel_rfl) (by kernel_rfl) (fun _ _ _ h => h) (by kernel_rfl) ?_ hHeld ?_; rotate_left; focus (((intro w hSw; (try dsimp only at hSw); go_simp) <;> with_reducible rfl); done)
          (try simp only [Act.put, List.setIfInBounds_toArray, List.set_cons_zero, List.set_cons_succ])
          refine held_take (i := 24) (v := ?_) rfl (by kernel_rfl) (by kernel_rfl) (by kernel_rfl) (fun _ _ _ h => h) (by kernel_rfl) ?_ hHeld ?_; rotate_left; focus (((intro w hSw; (try dsimp only at hSw); go_simp) <;> with_reducible rfl); done)
          (try simp only [Act.put, List.setIfInBounds_toArray, List.set_cons_zero, List.set_cons_succ])
          refine held_take (i := 25) (v := ?_) rfl (by kernel_rfl) (by kernel_rfl) (by kernel_rfl) (fun _ _ _ h => h) (by kernel_rfl) ?_ hHeld ?_; rotate_left; focus (((intro w hSw; (try dsimp only at hSw); go_simp) <;> with_reducible rfl); done)
          (try simp only [Act.put, List.setIfInBounds_toArray, List.set_cons_zero, List.set_cons_succ])
          refine held_take (i := 26) (v := ?_) rfl (by kernel_rfl) (by kernel_rfl) (by kernel_rfl) (fun _ _ _ h => h) (by kernel_rfl) ?_ hHeld ?_; rotate_left; focus (((intro w hSw; (try dsimp only at hSw); go_simp) <;> with_reducible rfl); done)
          (try simp only [Act.put, List.setIfInBounds_toArray, List.set_cons_zero, List.set_cons_succ])
          refine held_take (i := 27) (v := ?_) rfl (by kernel_rfl) (by kernel_rfl) (by kernel_rfl) (fun _ _ _ h => h) (by kernel_rfl) ?_ hHeld ?_; rotate_left; focus (((intro w hSw; (try dsimp only at hSw); go_simp) <;> with_reducible rfl); done)
          (try simp only [Act.put, List.setIfInBounds_toArray, List.set_cons_zero, List.set_cons_succ])
          refine wpAnyH_done (by kernel_rfl) ?_ _
          go_wp2
          · go_ret
            exact ⟨by rw [← HRES.out, BAD.out hnm (Or.inr ⟨hk0, by unfold strLe; rw [Bool.or_eq_true]; assumption⟩)]; rfl, by have := HAL.out.trans HBL.out; exact ⟨this.os, this.tape, this.output, this.size, this.block⟩⟩
          · go_roundw
            case rel => exact ⟨k1 + 1, by omega, by go_num, GOOD.out hnm (Or.inr (by unfold strLe; rw [Bool.or_eq_false_iff]; assumption)), by have := HB1.out; exact ⟨this.os, this.tape, this.output, this.size, this.block⟩⟩
            case measure => simp [intOf]; omega
        · skip
          have HNN : Hid (∀ s w, s = nm → Calls Try.prog 106 #[.string s] w (fun e w' => e = .returned (.bool false) ∧ w' = w)) := Lib.hid fun s w hs => by rw [hs, ← Bool.eq_false_iff.2 hnm]; exact rname_any nm w
          refine wp_region_held_drew (S := (fun w' => w'.cell? ⟨w.heap.size, 8, none⟩ = some (.slice (some ⟨q, off, none⟩) n8 c8) ∧ w'.cell? ⟨q, off + k1 * 12, none⟩ = some (.string nm) ∧ w'.cell? ⟨q, off + m * 12, none⟩ = some (.string p))) (by kernel_rfl) ⟨hc8, hn0, hp0⟩ (fun hHeld => ?_)
          refine held_take (i := 0) (v := ?_) rfl (by kernel_rfl) (by kernel_rfl) (by kernel_rfl) (fun _ _ _ h => h) (by kernel_rfl) ?_ hHeld ?_; rotate_left; focus (((intro w hSw; (try dsimp only at hSw); go_simp) <;> with_reducible rfl); done)
          (try simp only [Act.put, List.setIfInBounds_toArray, List.set_cons_zero, List.set_cons_succ])
          refine held_take (i := 1) (v := ?_) rfl (by kernel_rfl) (by kernel_rfl) (by kernel_rfl) (fun _ _ _ h => h) (by kernel_rfl) ?_ hHeld ?_; rotate_left; focus (((intro w hSw; (try dsimp only at hSw); go_simp) <;> with_reducible rfl); done)
          (try simp only [Act.put, List.setIfInBounds_toArray, List.set_cons_zero, List.set_cons_succ])
          refine held_take (i := 2) (v := ?_) rfl (by kernel_rfl) (by kernel_rfl) (by kernel_rfl) (fun _ _ _ h => h) (by kernel_rfl) ?_ hHeld ?_; rotate_left; focus (((intro w hSw; (try dsimp only at hSw); go_simp) <;> with_reducible rfl); done)
          (try simp only [Act.put, List.setIfInBounds_toArray, List.set_cons_zero, List.set_cons_succ])
          refine held_take (i := 3) (v := ?_) rfl (by kernel_rfl) (by kernel_rfl) (by kernel_rfl) (fun _ _ _ h => h) (by kernel_rfl) ?_ hHeld ?_; rotate_left; focus (((intro w hSw; (try dsimp only at hSw); go_simp) <;> with_reducible rfl); done)
          (try simp only [Act.put, List.setIfInBounds_toArray, List.set_cons_zero, List.set_cons_succ])
          refine held_take (i := 4) (v := ?_) rfl (by kernel_rfl) (by kernel_rfl) (by kernel_rfl) (fun _ _ _ h => h) (by kernel_rfl) ?_ hHeld ?_; rotate_left; focus (((intro w hSw; (try dsimp only at hSw); go_simp) <;> with_reducible rfl); done)
          (try simp only [Act.put, List.setIfInBounds_toArray, List.set_cons_zero, List.set_cons_succ])
          refine held_take (i := 5) (v := ?_) rfl (by kernel_rfl) (by kernel_rfl) (by kernel_rfl) (fun _ _ _ h => h) (by kernel_rfl) ?_ hHeld ?_; rotate_left; focus (((intro w hSw; (try dsimp only at hSw); go_simp) <;> with_reducible rfl); done)
          (try simp only [Act.put, List.setIfInBounds_toArray, List.set_cons_zero, List.set_cons_succ])
          refine held_call (i := 6) rfl (by kernel_rfl) (by kernel_rfl) (fun K hK => ?_)
          go_simp
          (refine (HNN.out _ _ rfl).mono ?_; rintro e w1 ⟨rfl, rfl⟩)
          refine hK.out _ _ ?_ (fun hHeld2 => ?_)
          · exact hHeld
          clear hK K hHeld
          have hHeld := hHeld2
          clear hHeld2
          (try simp only [Act.put, List.setIfInBounds_toArray, List.set_cons_zero, List.set_cons_succ])
          refine held_take (i := 7) (v := ?_) rfl (by kernel_rfl) (by kernel_rfl) (by kernel_rfl) (fun _ _ _ h => h) (by kernel_rfl) ?_ hHeld ?_; rotate_left; focus (((intro w hSw; (try dsimp only at hSw); go_simp) <;> with_reducible rfl); done)
          (try simp only [Act.put, List.setIfInBounds_toArray, List.set_cons_zero, List.set_cons_succ])
          refine held_take (i := 8) (v := ?_) rfl (by kernel_rfl) (by kernel_rfl) (by kernel_rfl) (fun _ _ _ h => h) (by kernel_rfl) ?_ hHeld ?_; rotate_left; focus (((intro w hSw; (try dsimp only at hSw); go_simp) <;> with_reducible rfl); done)
          (try simp only [Act.put, List.setIfInBounds_toArray, List.set_cons_zero, List.set_cons_succ])
          refine held_skip (i := 9) rfl (by kernel_rfl) (by kernel_rfl) (by kernel_rfl) (fun _ _ _ h => h) (by kernel_rfl) hHeld ?_
          (try simp only [Act.put, List.setIfInBounds_toArray, List.set_cons_zero, List.set_cons_succ])
          refine held_skip (i := 10) rfl (by kernel_rfl) (by kernel_rfl) (by kernel_rfl) (fun _ _ _ h => h) (by kernel_rfl) hHeld ?_
          (try simp only [Act.put, List.setIfInBounds_toArray, List.set_cons_zero, List.set_cons_succ])
          refine held_skip (i := 11) rfl (by kernel_rfl) (by kernel_rfl) (by kernel_rfl) (fun _ _ _ h => h) (by kernel_rfl) hHeld ?_
          (try simp only [Act.put, List.setIfInBounds_toArray, List.set_cons_zero, List.set_cons_succ])
          refine held_skip (i := 12) rfl (by kernel_rfl) (by kernel_rfl) (by kernel_rfl) (fun _ _ _ h => h) (by kernel_rfl) hHeld ?_
          (try simp only [Act.put, List.setIfInBounds_toArray, List.set_cons_zero, List.set_cons_succ])
          refine held_skip (i := 13) rfl (by kernel_rfl) (by kernel_rfl) (by kernel_rfl) (fun _ _ _ h => h) (by kernel_rfl) hHeld ?_
          (try simp only [Act.put, List.setIfInBounds_toArray, List.set_cons_zero, List.set_cons_succ])
          refine held_skip (i := 14) rfl (by kernel_rfl) (by kernel_rfl) (by kernel_rfl) (fun _ _ _ h => h) (by kernel_rfl) hHeld ?_
          (try simp only [Act.put, List.setIfInBounds_toArray, List.set_cons_zero, List.set_cons_succ])
          refine held_skip (i := 15) rfl (by kernel_rfl) (by kernel_rfl) (by kernel_rfl) (fun _ _ _ h => h) (by kernel_rfl) hHeld ?_
          (try simp only [Act.put, List.setIfInBounds_toArray, List.set_cons_zero, List.set_cons_succ])
          refine held_skip (i := 16) rfl (by kernel_rfl) (by kernel_rfl) (by kernel_rfl) (fun _ _ _ h => h) (by kernel_rfl) hHeld ?_
          (try simp only [Act.put, List.setIfInBounds_toArray, List.set_cons_zero, List.set_cons_succ])
          refine held_skip (i := 17) rfl (by kernel_rfl) (by kernel_rfl) (by kernel_rfl) (fun _ _ _ h => h) (by kernel_rfl) hHeld ?_
          (try simp only [Act.put, List.setIfInBounds_toArray, List.set_cons_zero, List.set_cons_succ])
          refine held_skip (i := 18) rfl (by kernel_rfl) (by kernel_rfl) (by kernel_rfl) (fun _ _ _ h => h) (by kernel_rfl) hHeld ?_
          (try simp only [Act.put, List.setIfInBounds_toArray, List.set_cons_zero, List.set_cons_succ])
          refine held_skip (i := 19) rfl (by kernel_rfl) (by kernel_rfl) (by kernel_rfl) (fun _ _ _ h => h) (by kernel_rfl) hHeld ?_
          (try simp only [Act.put, List.setIfInBounds_toArray, List.set_cons_zero, List.set_cons_succ])
          refine held_skip (i := 20) rfl (by kernel_rfl) (by kernel_rfl) (by kernel_rfl) (fun _ _ _ h => h) (by kernel_rfl) hHeld ?_
          (try simp only [Act.put, List.setIfInBounds_toArray, List.set_cons_zero, List.set_cons_succ])
          refine held_skip (i := 21) rfl (by kernel_rfl) (by kernel_rfl) (by kernel_rfl) (fun _ _ _ h => h) (by kernel_rfl) hHeld ?_
          (try simp only [Act.put, List.setIfInBounds_toArray, List.set_cons_zero, List.set_cons_succ])
          refine held_skip (i := 22) rfl (by kernel_rfl) (by kernel_rfl) (by kernel_rfl) (fun _ _ _ h => h) (by kernel_rfl) hHeld ?_
          (try simp only [Act.put, List.setIfInBounds_toArray, List.set_cons_zero, List.set_cons_succ])
          refine held_skip (i := 23) rfl (by kernel_rfl) (by kernel_rfl) (by kernel_rfl) (fun _ _ _ h => h) (by kernel_rfl) hHeld ?_
          (try simp only [Act.put, List.setIfInBounds_toArray, List.set_cons_zero, List.set_cons_succ])
          refine held_skip (i := 24) rfl (by kernel_rfl) (by kernel_rfl) (by kernel_rfl) (fun _ _ _ h => h) (by kernel_rfl) hHeld ?_
          (try simp only [Act.put, List.setIfInBounds_toArray, List.set_cons_zero, List.set_cons_succ])
          refine held_skip (i := 25) rfl (by kernel_rfl) (by kernel_rfl) (by kernel_rfl) (fun _ _ _ h => h) (by kernel_rfl) hHeld ?_
          (try simp only [Act.put, List.setIfInBounds_toArray, List.set_cons_zero, List.set_cons_succ])
          refine held_skip (i := 26) rfl (by kernel_rfl) (by kernel_rfl) (by kernel_rfl) (fun _ _ _ h => h) (by kernel_rfl) hHeld ?_
          (try simp only [Act.put, List.setIfInBounds_toArray, List.set_cons_zero, List.set_cons_succ])
          refine held_take (i := 27) (v := ?_) rfl (by kernel_rfl) (by kernel_rfl) (by kernel_rfl) (fun _ _ _ h => h) (by kernel_rfl) ?_ hHeld ?_; rotate_left; focus (((intro w hSw; (try dsimp only at hSw); go_simp) <;> with_reducible rfl); done)
          (try simp only [Act.put, List.setIfInBounds_toArray, List.set_cons_zero, List.set_cons_succ])
          refine wpAnyH_done (by kernel_rfl) ?_ _
          go_wp2
          go_ret
          exact ⟨by rw [← HRES.out, BAD0.out (Bool.eq_false_iff.2 hnm)]; rfl, by have := HAL.out.trans HBL.out; exact ⟨this.os, this.tape, this.output, this.size, this.block⟩⟩
    · obtain rfl : k1 = n8 := by omega
      clear hwcell
      go_wp2
      go_ret
      refine ⟨?_, HAL.out.trans HBL.out⟩
      have hok : namesOk ns = true := by
        rw [namesOk, List.all_eq_true]
        intro i hi
        exact HA.out i (by simp at hi; omega)
      rw [← HRES.out, hok]; rfl

set_option maxRecDepth 20000 in
set_option maxHeartbeats 4000000 in
theorem rown_loop10 (b : Bool) (i : Int) (f : Nat) (s : ByteArray) (A5 : Option Addr) (n5 c5 : Nat) (r : Int) (A7 : Option Addr) (n7 c7 : Nat) (q off n8 c8 : Nat) (c : ByteArray) (v : Int) (n deep : Int) (w : World)
    (h6 : decide (v < 1) = false) (h7 : decide (1000 < v) = false) (hn : ∀ w, Calls Try.prog 106 #[.string c] w (fun e w' => e = .returned (.bool true) ∧ w' = w)) (h4 : decide (16384 ≤ n) = false) (h5 : decide (64 < deep) = false) (h8 : decide ((4096 : Int) < (n8 : Int)) = false) (hq : q < w.heap.size)
    (ns : List ByteArray) (hl : ns.length = n8) (hcs : ∀ j, j < n8 → w.cell? ⟨q, off + j * 12, none⟩ = some (.string (ns.getD j ByteArray.empty))) (res : Int) (hres : (if namesOk ns then 0 else 8) = res) :
    Calls Try.prog 72 #[.agg #[.int .i64 10, .bool b, .int .i64 i, .float .f64 f, .string s, .slice A5 n5 c5, .int .u64 r, .slice A7 n7 c7, .slice (some ⟨q, off, none⟩) n8 c8, .string c, .int .i64 v], .int .i64 n, .int .i64 deep] w (Gives res w) := by
  have HRES := Lib.hid hres
  have HCS := Lib.hid hcs
  have hlen : n8 ≤ 4096 := by have := of_decide_eq_false h8; omega
  clear hres hcs
  go_enter Try.func72, Try.ntmps72
  go_wp2_with (first | (go_at_call 106; refine (hn _).mono ?_; rintro e w1 ⟨rfl, rfl⟩))
  clear h8
  have HAL := Lib.hid ((Below.refl w.heap.size w).alloc (Nat.le_refl _) (.cells #[.int .i64 10, .bool b, .int .i64 i, .float .f64 f, .string s, .slice A5 n5 c5, .int .u64 r, .slice A7 n7 c7, .slice (some ⟨q, off, none⟩) n8 c8, .string c, .int .i64 v] 31))
  go_loopw [7] (fun v7 wr => ∃ k1 : Nat, k1 ≤ n8 ∧ v7 = .int .i64 k1 ∧ (∀ i, i < k1 → goodAt ns i = true) ∧ Below (w.heap.size + 1) (w.alloc (.cells #[.int .i64 10, .bool b, .int .i64 i, .float .f64 f, .string s, .slice A5 n5 c5, .int .u64 r, .slice A7 n7 c7, .slice (some ⟨q, off, none⟩) n8 c8, .string c, .int .i64 v] 31)) wr) (fun v _ => n8 - (intOf v).toNat)
  case atStart => exact ⟨0, by omega, rfl, by simp, Below.refl _ _⟩
  case round =>
    obtain ⟨k1, hk, rfl, hall, hbl⟩ := hrel
    have HA := Lib.hid hall
    have HB1 := Lib.hid hbl
    have HBL := Lib.hid (hbl.mono (show w.heap.size ≤ w.heap.size + 1 by omega))
    clear hall
    have hc8 : wr.cell? ⟨w.heap.size, 8, none⟩ = some (.slice (some ⟨q, off, none⟩) n8 c8) := by
      rw [hbl.cell (p := ⟨w.heap.size, 8, none⟩) (show w.heap.size < w.heap.size + 1 by omega)]; exact (Blk.new w 31 _).cell 8
    have hwcell : ∀ j, j < n8 → wr.cell? ⟨q, off + j * 12, none⟩ = some (.string (ns.getD j ByteArray.empty)) := fun j hj => by
      rw [hbl.cell (p := ⟨q, off + j * 12, none⟩) (show q < w.heap.size + 1 by omega), HAL.out.cell (p := ⟨q, off + j * 12, none⟩) hq]; exact HCS.out j hj
    clear hbl
    by_cases hlt : k1 < n8
    · have hk0i : (0 : Int) ≤ (k1 : Int) := Int.natCast_nonneg _
      have hk1i : (k1 : Int) < (n8 : Int) := by omega
      have hn0 := hwcell k1 hlt
      have hp0 := hwcell (k1 - 1) (by omega)
      clear hwcell
      obtain ⟨nm, hnm0⟩ : ∃ nm, nm = ns.getD k1 ByteArray.empty := ⟨_, rfl⟩
      obtain ⟨p, hp⟩ : ∃ p, p = ns.getD (k1 - 1) ByteArray.empty := ⟨_, rfl⟩
      rw [← hnm0] at hn0
      rw [← hp] at hp0
      have HN := Lib.hid hnm0
      clear hnm0
      have good : nameOk nm = true → (k1 = 0 ∨ strLe nm p = false) → ∀ i, i < k1 + 1 → goodAt ns i = true := fun h1 h2 i hi => by
        by_cases e : i = k1
        · subst e
          unfold goodAt
          rw [← HN.out, ← hp, h1]
          rcases h2 with h2 | h2 <;> simp [h2]
        · exact HA.out i (by omega)
      have bad0 : nameOk nm = false → namesOk ns = false := fun h1 => by
        rw [namesOk, List.all_eq_false]
        exact ⟨k1, by simp; omega, by unfold goodAt; rw [← HN.out, h1]; simp⟩
      have bad : nameOk nm = true → (k1 = 0 ∧ False ∨ ¬ k1 = 0 ∧ strLe nm p = true) → namesOk ns = false := fun h1 h2 => by
        rw [namesOk, List.all_eq_false]
        refine ⟨k1, by simp; omega, ?_⟩
        rcases h2 with h2 | h2
        · exact h2.2.elim
        · unfold goodAt; rw [← HN.out, ← hp, h1, h2.2]; simp [h2.1]
      have GOOD := Lib.hid good
      have BAD0 := Lib.hid bad0
      have BAD := Lib.hid bad
      clear good bad bad0 hp
      by_cases hk0 : k1 = 0
      · subst hk0
        have e0 : ((0 : Nat) : Int) = 0 := rfl
        simp only [e0, Nat.zero_mul, Nat.add_zero] at hn0 hk1i ⊢
        clear e0
        go_wp2_with fail
        by_cases hnm : nameOk nm = true
        · skip
          have HNN : Hid (∀ s w, s = nm → Calls Try.prog 106 #[.string s] w (fun e w' => e = .returned (.bool true) ∧ w' = w)) := Lib.hid fun s w hs => by rw [hs, ← hnm]; exact rname_any nm w
          refine wp_region_held_drew (S := (fun w' => w'.cell? ⟨w.heap.size, 8, none⟩ = some (.slice (some ⟨q, off, none⟩) n8 c8) ∧ w'.cell? ⟨q, off, none⟩ = some (.string nm))) (by kernel_rfl) ⟨hc8, hn0⟩ (fun hHeld => ?_)
          refine held_take (i := 0) (v := ?_) rfl (by kernel_rfl) (by kernel_rfl) (by kernel_rfl) (fun _ _ _ h => h) (by kernel_rfl) ?_ hHeld ?_; rotate_left; focus (((intro w hSw; (try dsimp only at hSw); go_simp) <;> with_reducible rfl); done)
          (try simp only [Act.put, List.setIfInBounds_toArray, List.set_cons_zero, List.set_cons_succ])
          refine held_take (i := 1) (v := ?_) rfl (by kernel_rfl) (by kernel_rfl) (by kernel_rfl) (fun _ _ _ h => h) (by kernel_rfl) ?_ hHeld ?_; rotate_left; focus (((intro w hSw; (try dsimp only at hSw); go_simp) <;> with_reducible rfl); done)
          (try simp only [Act.put, List.setIfInBounds_toArray, List.set_cons_zero, List.set_cons_succ])
          refine held_take (i := 2) (v := ?_) rfl (by kernel_rfl) (by kernel_rfl) (by kernel_rfl) (fun _ _ _ h => h) (by kernel_rfl) ?_ hHeld ?_; rotate_left; focus (((intro w hSw; (try dsimp only at hSw); go_simp) <;> with_reducible rfl); done)
          (try simp only [Act.put, List.setIfInBounds_toArray, List.set_cons_zero, List.set_cons_succ])
          refine held_take (i := 3) (v := ?_) rfl (by kernel_rfl) (by kernel_rfl) (by kernel_rfl) (fun _ _ _ h => h) (by kernel_rfl) ?_ hHeld ?_; rotate_left; focus (((intro w hSw; (try dsimp only at hSw); go_simp) <;> with_reducible rfl); done)
          (try simp only [Act.put, List.setIfInBounds_toArray, List.set_cons_zero, List.set_cons_succ])
          refine held_take (i := 4) (v := ?_) rfl (by kernel_rfl) (by kernel_rfl) (by kernel_rfl) (fun _ _ _ h => h) (by kernel_rfl) ?_ hHeld ?_; rotate_left; focus (((intro w hSw; (try dsimp only at hSw); go_simp) <;> with_reducible rfl); done)
          (try simp only [Act.put, List.setIfInBounds_toArray, List.set_cons_zero, List.set_cons_succ])
          refine held_take (i := 5) (v := ?_) rfl (by kernel_rfl) (by kernel_rfl) (by kernel_rfl) (fun _ _ _ h => h) (by kernel_rfl) ?_ hHeld ?_; rotate_left; focus (((intro w hSw; (try dsimp only at hSw); go_simp) <;> with_reducible rfl); done)
          (try simp only [Act.put, List.setIfInBounds_toArray, List.set_cons_zero, List.set_cons_succ])
          refine held_call (i := 6) rfl (by kernel_rfl) (by kernel_rfl) (fun K hK => ?_)
          go_simp
          (refine (HNN.out _ _ rfl).mono ?_; rintro e w1 ⟨rfl, rfl⟩)
          refine hK.out _ _ ?_ (fun hHeld2 => ?_)
          · exact hHeld
          clear hK K hHeld
          have hHeld := hHeld2
          clear hHeld2
          (try simp only [Act.put, List.setIfInBounds_toArray, List.set_cons_zero, List.set_cons_succ])
          refine held_take (i := 7) (v := ?_) rfl (by kernel_rfl) (by kernel_rfl) (by kernel_rfl) (fun _ _ _ h => h) (by kernel_rfl) ?_ hHeld ?_; rotate_left; focus (((intro w hSw; (try dsimp only at hSw); go_simp) <;> with_reducible rfl); done)
          (try simp only [Act.put, List.setIfInBounds_toArray, List.set_cons_zero, List.set_cons_succ])
          refine held_take (i := 8) (v := ?_) rfl (by kernel_rfl) (by kernel_rfl) (by kernel_rfl) (fun _ _ _ h => h) (by kernel_rfl) ?_ hHeld ?_; rotate_left; focus (((intro w hSw; (try dsimp only at hSw); go_simp) <;> with_reducible rfl); done)
          (try simp only [Act.put, List.setIfInBounds_toArray, List.set_cons_zero, List.set_cons_succ])
          refine held_take (i := 9) (v := ?_) rfl (by kernel_rfl) (by kernel_rfl) (by kernel_rfl) (fun _ _ _ h => h) (by kernel_rfl) ?_ hHeld ?_; rotate_left; focus (((intro w hSw; (try dsimp only at hSw); go_simp) <;> with_reducible rfl); done)
          (try simp only [Act.put, List.setIfInBounds_toArray, List.set_cons_zero, List.set_cons_succ])
          refine held_take (i := 10) (v := ?_) rfl (by kernel_rfl) (by kernel_rfl) (by kernel_rfl) (fun _ _ _ h => h) (by kernel_rfl) ?_ hHeld ?_; rotate_left; focus (((intro w hSw; (try dsimp only at hSw); go_simp) <;> with_reducible rfl); done)
          (try simp only [Act.put, List.setIfInBounds_toArray, List.set_cons_zero, List.set_cons_succ])
          refine held_take (i := 11) (v := ?_) rfl (by kernel_rfl) (by kernel_rfl) (by kernel_rfl) (fun _ _ _ h => h) (by kernel_rfl) ?_ hHeld ?_; rotate_left; focus (((intro w hSw; (try dsimp only at hSw); go_simp) <;> with_reducible rfl); done)
          (try simp only [Act.put, List.setIfInBounds_toArray, List.set_cons_zero, List.set_cons_succ])
          refine held_skip (i := 12) rfl (by kernel_rfl) (by kernel_rfl) (by kernel_rfl) (fun _ _ _ h => h) (by kernel_rfl) hHeld ?_
          (try simp only [Act.put, List.setIfInBounds_toArray, List.set_cons_zero, List.set_cons_succ])
          refine held_skip (i := 13) rfl (by kernel_rfl) (by kernel_rfl) (by kernel_rfl) (fun _ _ _ h => h) (by kernel_rfl) hHeld ?_
          (try simp only [Act.put, List.setIfInBounds_toArray, List.set_cons_zero, List.set_cons_succ])
          refine held_skip (i := 14) rfl (by kernel_rfl) (by kernel_rfl) (by kernel_rfl) (fun _ _ _ h => h) (by kernel_rfl) hHeld ?_
          (try simp only [Act.put, List.setIfInBounds_toArray, List.set_cons_zero, List.set_cons_succ])
          refine held_skip (i := 15) rfl (by kernel_rfl) (by kernel_rfl) (by kernel_rfl) (fun _ _ _ h => h) (by kernel_rfl) hHeld ?_
          (try simp only [Act.put, List.setIfInBounds_toArray, List.set_cons_zero, List.set_cons_succ])
          refine held_skip (i := 16) rfl (by kernel_rfl) (by kernel_rfl) (by kernel_rfl) (fun _ _ _ h => h) (by kernel_rfl) hHeld ?_
          (try simp only [Act.put, List.setIfInBounds_toArray, List.set_cons_zero, List.set_cons_succ])
          refine held_skip (i := 17) rfl (by kernel_rfl) (by kernel_rfl) (by kernel_rfl) (fun _ _ _ h => h) (by kernel_rfl) hHeld ?_
          (try simp only [Act.put, List.setIfInBounds_toArray, List.set_cons_zero, List.set_cons_succ])
          refine held_skip (i := 18) rfl (by kernel_rfl) (by kernel_rfl) (by kernel_rfl) (fun _ _ _ h => h) (by kernel_rfl) hHeld ?_
          (try simp only [Act.put, List.setIfInBounds_toArray, List.set_cons_zero, List.set_cons_succ])
          refine held_skip (i := 19) rfl (by kernel_rfl) (by kernel_rfl) (by kernel_rfl) (fun _ _ _ h => h) (by kernel_rfl) hHeld ?_
          (try simp only [Act.put, List.setIfInBounds_toArray, List.set_cons_zero, List.set_cons_succ])
          refine held_skip (i := 20) rfl (by kernel_rfl) (by kernel_rfl) (by kernel_rfl) (fun _ _ _ h => h) (by kernel_rfl) hHeld ?_
          (try simp only [Act.put, List.setIfInBounds_toArray, List.set_cons_zero, List.set_cons_succ])
          refine held_skip (i := 21) rfl (by kernel_rfl) (by kernel_rfl) (by kernel_rfl) (fun _ _ _ h => h) (by kernel_rfl) hHeld ?_
          (try simp only [Act.put, List.setIfInBounds_toArray, List.set_cons_zero, List.set_cons_succ])
          refine held_skip (i := 22) rfl (by kernel_rfl) (by kernel_rfl) (by kernel_rfl) (fun _ _ _ h => h) (by kernel_rfl) hHeld ?_
          (try simp only [Act.put, List.setIfInBounds_toArray, List.set_cons_zero, List.set_cons_succ])
          refine held_skip (i := 23) rfl (by kernel_rfl) (by kernel_rfl) (by kernel_rfl) (fun _ _ _ h => h) (by kernel_rfl) hHeld ?_
          (try simp only [Act.put, List.setIfInBounds_toArray, List.set_cons_zero, List.set_cons_succ])
          refine held_skip (i := 24) rfl (by kernel_rfl) (by kernel_rfl) (by kernel_rfl) (fun _ _ _ h => h) (by kernel_rfl) hHeld ?_
          (try simp only [Act.put, List.setIfInBounds_toArray, List.set_cons_zero, List.set_cons_succ])
          refine held_skip (i := 25) rfl (by kernel_rfl) (by kernel_rfl) (by kernel_rfl) (fun _ _ _ h => h) (by kernel_rfl) hHeld ?_
          (try simp only [Act.put, List.setIfInBounds_toArray, List.set_cons_zero, List.set_cons_succ])
          refine held_take (i := 26) (v := ?_) rfl (by kernel_rfl) (by kernel_rfl) (by kernel_rfl) (fun _ _ _ h => h) (by kernel_rfl) ?_ hHeld ?_; rotate_left; focus (((intro w hSw; (try dsimp only at hSw); go_simp) <;> with_reducible rfl); done)
          (try simp only [Act.put, List.setIfInBounds_toArray, List.set_cons_zero, List.set_cons_succ])
          refine held_take (i := 27) (v := ?_) rfl (by kernel_rfl) (by kernel_rfl) (by kernel_rfl) (fun _ _ _ h => h) (by kernel_rfl) ?_ hHeld ?_; rotate_left; focus (((intro w hSw; (try dsimp only at hSw); go_simp) <;> with_reducible rfl); done)
          (try simp only [Act.put, List.setIfInBounds_toArray, List.set_cons_zero, List.set_cons_succ])
          refine wpAnyH_done (by kernel_rfl) ?_ _
          go_wp2
          go_roundw
          case rel => exact ⟨0 + 1, by omega, by go_num, GOOD.out hnm (Or.inl (by trivial)), by have := HB1.out; exact ⟨this.os, this.tape, this.output, this.size, this.block⟩⟩
          case measure => simp [intOf]; omega
        · skip
          have HNN : Hid (∀ s w, s = nm → Calls Try.prog 106 #[.string s] w (fun e w' => e = .returned (.bool false) ∧ w' = w)) := Lib.hid fun s w hs => by rw [hs, ← Bool.eq_false_iff.2 hnm]; exact rname_any nm w
          refine wp_region_held_drew (S := (fun w' => w'.cell? ⟨w.heap.size, 8, none⟩ = some (.slice (some ⟨q, off, none⟩) n8 c8) ∧ w'.cell? ⟨q, off, none⟩ = some (.string nm))) (by kernel_rfl) ⟨hc8, hn0⟩ (fun hHeld => ?_)
          refine held_take (i := 0) (v := ?_) rfl (by kernel_rfl) (by kernel_rfl) (by kernel_rfl) (fun _ _ _ h => h) (by kernel_rfl) ?_ hHeld ?_; rotate_left; focus (((intro w hSw; (try dsimp only at hSw); go_simp) <;> with_reducible rfl); done)
          (try simp only [Act.put, List.setIfInBounds_toArray, List.set_cons_zero, List.set_cons_succ])
          refine held_take (i := 1) (v := ?_) rfl (by kernel_rfl) (by kernel_rfl) (by kernel_rfl) (fun _ _ _ h => h) (by kernel_rfl) ?_ hHeld ?_; rotate_left; focus (((intro w hSw; (try dsimp only at hSw); go_simp) <;> with_reducible rfl); done)
          (try simp only [Act.put, List.setIfInBounds_toArray, List.set_cons_zero, List.set_cons_succ])
          refine held_take (i := 2) (v := ?_) rfl (by kernel_rfl) (by kernel_rfl) (by kernel_rfl) (fun _ _ _ h => h) (by kernel_rfl) ?_ hHeld ?_; rotate_left; focus (((intro w hSw; (try dsimp only at hSw); go_simp) <;> with_reducible rfl); done)
          (try simp only [Act.put, List.setIfInBounds_toArray, List.set_cons_zero, List.set_cons_succ])
          refine held_take (i := 3) (v := ?_) rfl (by kernel_rfl) (by kernel_rfl) (by kernel_rfl) (fun _ _ _ h => h) (by kernel_rfl) ?_ hHeld ?_; rotate_left; focus (((intro w hSw; (try dsimp only at hSw); go_simp) <;> with_reducible rfl); done)
          (try simp only [Act.put, List.setIfInBounds_toArray, List.set_cons_zero, List.set_cons_succ])
          refine held_take (i := 4) (v := ?_) rfl (by kernel_rfl) (by kernel_rfl) (by kernel_rfl) (fun _ _ _ h => h) (by kernel_rfl) ?_ hHeld ?_; rotate_left; focus (((intro w hSw; (try dsimp only at hSw); go_simp) <;> with_reducible rfl); done)
          (try simp only [Act.put, List.setIfInBounds_toArray, List.set_cons_zero, List.set_cons_succ])
          refine held_take (i := 5) (v := ?_) rfl (by kernel_rfl) (by kernel_rfl) (by kernel_rfl) (fun _ _ _ h => h) (by kernel_rfl) ?_ hHeld ?_; rotate_left; focus (((intro w hSw; (try dsimp only at hSw); go_simp) <;> with_reducible rfl); done)
          (try simp only [Act.put, List.setIfInBounds_toArray, List.set_cons_zero, List.set_cons_succ])
          refine held_call (i := 6) rfl (by kernel_rfl) (by kernel_rfl) (fun K hK => ?_)
          go_simp
          (refine (HNN.out _ _ rfl).mono ?_; rintro e w1 ⟨rfl, rfl⟩)
          refine hK.out _ _ ?_ (fun hHeld2 => ?_)
          · exact hHeld
          clear hK K hHeld
          have hHeld := hHeld2
          clear hHeld2
          (try simp only [Act.put, List.setIfInBounds_toArray, List.set_cons_zero, List.set_cons_succ])
          refine held_take (i := 7) (v := ?_) rfl (by kernel_rfl) (by kernel_rfl) (by kernel_rfl) (fun _ _ _ h => h) (by kernel_rfl) ?_ hHeld ?_; rotate_left; focus (((intro w hSw; (try dsimp only at hSw); go_simp) <;> with_reducible rfl); done)
          (try simp only [Act.put, List.setIfInBounds_toArray, List.set_cons_zero, List.set_cons_succ])
          refine held_take (i := 8) (v := ?_) rfl (by kernel_rfl) (by kernel_rfl) (by kernel_rfl) (fun _ _ _ h => h) (by kernel_rfl) ?_ hHeld ?_; rotate_left; focus (((intro w hSw; (try dsimp only at hSw); go_simp) <;> with_reducible rfl); done)
          (try simp only [Act.put, List.setIfInBounds_toArray, List.set_cons_zero, List.set_cons_succ])
          refine held_skip (i := 9) rfl (by kernel_rfl) (by kernel_rfl) (by kernel_rfl) (fun _ _ _ h => h) (by kernel_rfl) hHeld ?_
          (try simp only [Act.put, List.setIfInBounds_toArray, List.set_cons_zero, List.set_cons_succ])
          refine held_skip (i := 10) rfl (by kernel_rfl) (by kernel_rfl) (by kernel_rfl) (fun _ _ _ h => h) (by kernel_rfl) hHeld ?_
          (try simp only [Act.put, List.setIfInBounds_toArray, List.set_cons_zero, List.set_cons_succ])
          refine held_skip (i := 11) rfl (by kernel_rfl) (by kernel_rfl) (by kernel_rfl) (fun _ _ _ h => h) (by kernel_rfl) hHeld ?_
          (try simp only [Act.put, List.setIfInBounds_toArray, List.set_cons_zero, List.set_cons_succ])
          refine held_skip (i := 12) rfl (by kernel_rfl) (by kernel_rfl) (by kernel_rfl) (fun _ _ _ h => h) (by kernel_rfl) hHeld ?_
          (try simp only [Act.put, List.setIfInBounds_toArray, List.set_cons_zero, List.set_cons_succ])
          refine held_skip (i := 13) rfl (by kernel_rfl) (by kernel_rfl) (by kernel_rfl) (fun _ _ _ h => h) (by kernel_rfl) hHeld ?_
          (try simp only [Act.put, List.setIfInBounds_toArray, List.set_cons_zero, List.set_cons_succ])
          refine held_skip (i := 14) rfl (by kernel_rfl) (by kernel_rfl) (by kernel_rfl) (fun _ _ _ h => h) (by kernel_rfl) hHeld ?_
          (try simp only [Act.put, List.setIfInBounds_toArray, List.set_cons_zero, List.set_cons_succ])
          refine held_skip (i := 15) rfl (by kernel_rfl) (by kernel_rfl) (by kernel_rfl) (fun _ _ _ h => h) (by kernel_rfl) hHeld ?_
          (try simp only [Act.put, List.setIfInBounds_toArray, List.set_cons_zero, List.set_cons_succ])
          refine held_skip (i := 16) rfl (by kernel_rfl) (by kernel_rfl) (by kernel_rfl) (fun _ _ _ h => h) (by kernel_rfl) hHeld ?_
          (try simp only [Act.put, List.setIfInBounds_toArray, List.set_cons_zero, List.set_cons_succ])
          refine held_skip (i := 17) rfl (by kernel_rfl) (by kernel_rfl) (by kernel_rfl) (fun _ _ _ h => h) (by kernel_rfl) hHeld ?_
          (try simp only [Act.put, List.setIfInBounds_toArray, List.set_cons_zero, List.set_cons_succ])
          refine held_skip (i := 18) rfl (by kernel_rfl) (by kernel_rfl) (by kernel_rfl) (fun _ _ _ h => h) (by kernel_rfl) hHeld ?_
          (try simp only [Act.put, List.setIfInBounds_toArray, List.set_cons_zero, List.set_cons_succ])
          refine held_skip (i := 19) rfl (by kernel_rfl) (by kernel_rfl) (by kernel_rfl) (fun _ _ _ h => h) (by kernel_rfl) hHeld ?_
          (try simp only [Act.put, List.setIfInBounds_toArray, List.set_cons_zero, List.set_cons_succ])
          refine held_skip (i := 20) rfl (by kernel_rfl) (by kernel_rfl) (by kernel_rfl) (fun _ _ _ h => h) (by kernel_rfl) hHeld ?_
          (try simp only [Act.put, List.setIfInBounds_toArray, List.set_cons_zero, List.set_cons_succ])
          refine held_skip (i := 21) rfl (by kernel_rfl) (by kernel_rfl) (by kernel_rfl) (fun _ _ _ h => h) (by kernel_rfl) hHeld ?_
          (try simp only [Act.put, List.setIfInBounds_toArray, List.set_cons_zero, List.set_cons_succ])
          refine held_skip (i := 22) rfl (by kernel_rfl) (by kernel_rfl) (by kernel_rfl) (fun _ _ _ h => h) (by kernel_rfl) hHeld ?_
          (try simp only [Act.put, List.setIfInBounds_toArray, List.set_cons_zero, List.set_cons_succ])
          refine held_skip (i := 23) rfl (by kernel_rfl) (by kernel_rfl) (by kernel_rfl) (fun _ _ _ h => h) (by kernel_rfl) hHeld ?_
          (try simp only [Act.put, List.setIfInBounds_toArray, List.set_cons_zero, List.set_cons_succ])
          refine held_skip (i := 24) rfl (by kernel_rfl) (by kernel_rfl) (by kernel_rfl) (fun _ _ _ h => h) (by kernel_rfl) hHeld ?_
          (try simp only [Act.put, List.setIfInBounds_toArray, List.set_cons_zero, List.set_cons_succ])
          refine held_skip (i := 25) rfl (by kernel_rfl) (by kernel_rfl) (by kernel_rfl) (fun _ _ _ h => h) (by kernel_rfl) hHeld ?_
          (try simp only [Act.put, List.setIfInBounds_toArray, List.set_cons_zero, List.set_cons_succ])
          refine held_skip (i := 26) rfl (by kernel_rfl) (by kernel_rfl) (by kernel_rfl) (fun _ _ _ h => h) (by kernel_rfl) hHeld ?_
          (try simp only [Act.put, List.setIfInBounds_toArray, List.set_cons_zero, List.set_cons_succ])
          refine held_take (i := 27) (v := ?_) rfl (by kernel_rfl) (by kernel_rfl) (by kernel_rfl) (fun _ _ _ h => h) (by kernel_rfl) ?_ hHeld ?_; rotate_left; focus (((intro w hSw; (try dsimp only at hSw); go_simp) <;> with_reducible rfl); done)
          (try simp only [Act.put, List.setIfInBounds_toArray, List.set_cons_zero, List.set_cons_succ])
          refine wpAnyH_done (by kernel_rfl) ?_ _
          go_wp2
          go_ret
          exact ⟨by rw [← HRES.out, BAD0.out (Bool.eq_false_iff.2 hnm)]; rfl, by have := HAL.out.trans HBL.out; exact ⟨this.os, this.tape, this.output, this.size, this.block⟩⟩
      · have b1 : decide (0 < (k1 : Int)) = true := by simp; omega
        have b1' : decide (0 < k1) = true := by simp; omega
        obtain ⟨m, hm⟩ : ∃ m, m = k1 - 1 := ⟨_, rfl⟩
        have hwr : IntKind.i64.wrap ((k1 : Int) - 1) = (m : Int) := by rw [hm]; (have : (k1 : Int) - 1 = ((k1 - 1 : Nat) : Int) := by omega); rw [this]; exact IntWalk.i64_in _ ⟨by omega, by omega⟩
        have hk1' : (0 : Int) ≤ (m : Int) := by omega
        have hk2' : (m : Int) < (n8 : Int) := by omega
        rw [← hm] at hp0
        clear hm
        go_wp2_with fail
        by_cases hnm : nameOk nm = true
        · skip
          have HNN : Hid (∀ s w, s = nm → Calls Try.prog 106 #[.string s] w (fun e w' => e = .returned (.bool true) ∧ w' = w)) := Lib.hid fun s w hs => by rw [hs, ← hnm]; exact rname_any nm w
          refine wp_region_held_drew (S := (fun w' => w'.cell? ⟨w.heap.size, 8, none⟩ = some (.slice (some ⟨q, off, none⟩) n8 c8) ∧ w'.cell? ⟨q, off + k1 * 12, none⟩ = some (.string nm) ∧ w'.cell? ⟨q, off + m * 12, none⟩ = some (.string p))) (by kernel_rfl) ⟨hc8, hn0, hp0⟩ (fun hHeld => ?_)
          refine held_take (i := 0) (v := ?_) rfl (by kernel_rfl) (by kernel_rfl) (by kernel_rfl) (fun _ _ _ h => h) (by kernel_rfl) ?_ hHeld ?_; rotate_left; focus (((intro w hSw; (try dsimp only at hSw); go_simp) <;> with_reducible rfl); done)
          (try simp only [Act.put, List.setIfInBounds_toArray, List.set_cons_zero, List.set_cons_succ])
          refine held_take (i := 1) (v := ?_) rfl (by kernel_rfl) (by kernel_rfl) (by kernel_rfl) (fun _ _ _ h => h) (by kernel_rfl) ?_ hHeld ?_; rotate_left; focus (((intro w hSw; (try dsimp only at hSw); go_simp) <;> with_reducible rfl); done)
          (try simp only [Act.put, List.setIfInBounds_toArray, List.set_cons_zero, List.set_cons_succ])
          refine held_take (i := 2) (v := ?_) rfl (by kernel_rfl) (by kernel_rfl) (by kernel_rfl) (fun _ _ _ h => h) (by kernel_rfl) ?_ hHeld ?_; rotate_left; focus (((intro w hSw; (try dsimp only at hSw); go_simp) <;> with_reducible rfl); done)
          (try simp only [Act.put, List.setIfInBounds_toArray, List.set_cons_zero, List.set_cons_succ])
          refine held_take (i := 3) (v := ?_) rfl (by kernel_rfl) (by kernel_rfl) (by kernel_rfl) (fun _ _ _ h => h) (by kernel_rfl) ?_ hHeld ?_; rotate_left; focus (((intro w hSw; (try dsimp only at hSw); go_simp) <;> with_reducible rfl); done)
          (try simp only [Act.put, List.setIfInBounds_toArray, List.set_cons_zero, List.set_cons_succ])
          refine held_take (i := 4) (v := ?_) rfl (by kernel_rfl) (by kernel_rfl) (by kernel_rfl) (fun _ _ _ h => h) (by kernel_rfl) ?_ hHeld ?_; rotate_left; focus (((intro w hSw; (try dsimp only at hSw); go_simp) <;> with_reducible rfl); done)
          (try simp only [Act.put, List.setIfInBounds_toArray, List.set_cons_zero, List.set_cons_succ])
          refine held_take (i := 5) (v := ?_) rfl (by kernel_rfl) (by kernel_rfl) (by kernel_rfl) (fun _ _ _ h => h) (by kernel_rfl) ?_ hHeld ?_; rotate_left; focus (((intro w hSw; (try dsimp only at hSw); go_simp) <;> with_reducible rfl); done)
          (try simp only [Act.put, List.setIfInBounds_toArray, List.set_cons_zero, List.set_cons_succ])
          refine held_call (i := 6) rfl (by kernel_rfl) (by kernel_rfl) (fun K hK => ?_)
          go_simp
          (refine (HNN.out _ _ rfl).mono ?_; rintro e w1 ⟨rfl, rfl⟩)
          refine hK.out _ _ ?_ (fun hHeld2 => ?_)
          · exact hHeld
          clear hK K hHeld
          have hHeld := hHeld2
          clear hHeld2
          (try simp only [Act.put, List.setIfInBounds_toArray, List.set_cons_zero, List.set_cons_succ])
          refine held_take (i := 7) (v := ?_) rfl (by kernel_rfl) (by kernel_rfl) (by kernel_rfl) (fun _ _ _ h => h) (by kernel_rfl) ?_ hHeld ?_; rotate_left; focus (((intro w hSw; (try dsimp only at hSw); go_simp) <;> with_reducible rfl); done)
          (try simp only [Act.put, List.setIfInBounds_toArray, List.set_cons_zero, List.set_cons_succ])
          refine held_take (i := 8) (v := ?_) rfl (by kernel_rfl) (by kernel_rfl) (by kernel_rfl) (fun _ _ _ h => h) (by kernel_rfl) ?_ hHeld ?_; rotate_left; focus (((intro w hSw; (try dsimp only at hSw); go_simp) <;> with_reducible rfl); done)
          (try simp only [Act.put, List.setIfInBounds_toArray, List.set_cons_zero, List.set_cons_succ])
          refine held_take (i := 9) (v := ?_) rfl (by kernel_rfl) (by kernel_rfl) (by kernel_rfl) (fun _ _ _ h => h) (by kernel_rfl) ?_ hHeld ?_; rotate_left; focus (((intro w hSw; (try dsimp only at hSw); go_simp) <;> with_reducible rfl); done)
          (try simp only [Act.put, List.setIfInBounds_toArray, List.set_cons_zero, List.set_cons_succ])
          refine held_take (i := 10) (v := ?_) rfl (by kernel_rfl) (by kernel_rfl) (by kernel_rfl) (fun _ _ _ h => h) (by kernel_rfl) ?_ hHeld ?_; rotate_left; focus (((intro w hSw; (try dsimp only at hSw); go_simp) <;> with_reducible rfl); done)
          (try simp only [Act.put, List.setIfInBounds_toArray, List.set_cons_zero, List.set_cons_succ])
          refine held_take (i := 11) (v := ?_) rfl (by kernel_rfl) (by kernel_rfl) (by kernel_rfl) (fun _ _ _ h => h) (by kernel_rfl) ?_ hHeld ?_; rotate_left; focus (((intro w hSw; (try dsimp only at hSw); go_simp) <;> with_reducible rfl); done)
          (try simp only [Act.put, List.setIfInBounds_toArray, List.set_cons_zero, List.set_cons_succ])
          refine held_take (i := 12) (v := ?_) rfl (by kernel_rfl) (by kernel_rfl) (by kernel_rfl) (fun _ _ _ h => h) (by kernel_rfl) ?_ hHeld ?_; rotate_left; focus (((intro w hSw; (try dsimp only at hSw); go_simp) <;> with_reducible rfl); done)
          (try simp only [Act.put, List.setIfInBounds_toArray, List.set_cons_zero, List.set_cons_succ])
          refine held_take (i := 13) (v := ?_) rfl (by kernel_rfl) (by kernel_rfl) (by kernel_rfl) (fun _ _ _ h => h) (by kernel_rfl) ?_ hHeld ?_; rotate_left; focus (((intro w hSw; (try dsimp only at hSw); go_simp) <;> with_reducible rfl); done)
          (try simp only [Act.put, List.setIfInBounds_toArray, List.set_cons_zero, List.set_cons_succ])
          refine held_take (i := 14) (v := ?_) rfl (by kernel_rfl) (by kernel_rfl) (by kernel_rfl) (fun _ _ _ h => h) (by kernel_rfl) ?_ hHeld ?_; rotate_left; focus (((intro w hSw; (try dsimp only at hSw); go_simp) <;> with_reducible rfl); done)
          (try simp only [Act.put, List.setIfInBounds_toArray, List.set_cons_zero, List.set_cons_succ])
          refine held_take (i := 15) (v := ?_) rfl (by kernel_rfl) (by kernel_rfl) (by kernel_rfl) (fun _ _ _ h => h) (by kernel_rfl) ?_ hHeld ?_; rotate_left; focus (((intro w hSw; (try dsimp only at hSw); go_simp) <;> with_reducible rfl); done)
          (try simp only [Act.put, List.setIfInBounds_toArray, List.set_cons_zero, List.set_cons_succ])
          refine held_take (i := 16) (v := ?_) rfl (by kernel_rfl) (by kernel_rfl) (by kernel_rfl) (fun _ _ _ h => h) (by kernel_rfl) ?_ hHeld ?_; rotate_left; focus (((intro w hSw; (try dsimp only at hSw); go_simp) <;> with_reducible rfl); done)
          (try simp only [Act.put, List.setIfInBounds_toArray, List.set_cons_zero, List.set_cons_succ])
          refine held_take (i := 17) (v := ?_) rfl (by kernel_rfl) (by kernel_rfl) (by kernel_rfl) (fun _ _ _ h => h) (by kernel_rfl) ?_ hHeld ?_; rotate_left; focus (((intro w hSw; (try dsimp only at hSw); go_simp) <;> with_reducible rfl); done)
          (try simp only [Act.put, List.setIfInBounds_toArray, List.set_cons_zero, List.set_cons_succ])
          refine held_take (i := 18) (v := ?_) rfl (by kernel_rfl) (by kernel_rfl) (by kernel_rfl) (fun _ _ _ h => h) (by kernel_rfl) ?_ hHeld ?_; rotate_left; focus (((intro w hSw; (try dsimp only at hSw); go_simp) <;> with_reducible rfl); done)
          (try simp only [Act.put, List.setIfInBounds_toArray, List.set_cons_zero, List.set_cons_succ])
          refine held_take (i := 19) (v := ?_) rfl (by kernel_rfl) (by kernel_rfl) (by kernel_rfl) (fun _ _ _ h => h) (by kernel_rfl) ?_ hHeld ?_; rotate_left; focus (((intro w hSw; (try dsimp only at hSw); go_simp) <;> with_reducible rfl); done)
          (try simp only [Act.put, List.setIfInBounds_toArray, List.set_cons_zero, List.set_cons_succ])
          refine held_take (i := 20) (v := ?_) rfl (by kernel_rfl) (by kernel_rfl) (by kernel_rfl) (fun _ _ _ h => h) (by kernel_rfl) ?_ hHeld ?_; rotate_left; focus (((intro w hSw; (try dsimp only at hSw); go_simp) <;> with_reducible rfl); done)
          (try simp only [Act.put, List.setIfInBounds_toArray, List.set_cons_zero, List.set_cons_succ])
          refine held_take (i := 21) (v := ?_) rfl (by kernel_rfl) (by kernel_rfl) (by kernel_rfl) (fun _ _ _ h => h) (by kernel_rfl) ?_ hHeld ?_; rotate_left; focus (((intro w hSw; (try dsimp only at hSw); go_simp) <;> with_reducible rfl); done)
          (try simp only [Act.put, List.setIfInBounds_toArray, List.set_cons_zero, List.set_cons_succ])
          refine held_take (i := 22) (v := ?_) rfl (by kernel_rfl) (by kernel_rfl) (by kernel_rfl) (fun _ _ _ h => h) (by kernel_rfl) ?_ hHeld ?_; rotate_left; focus (((intro w hSw; (try dsimp only at hSw); go_simp) <;> with_reducible rfl); done)
          (try simp only [Act.put, List.setIfInBounds_toArray, List.set_cons_zero, List.set_cons_succ])
          refine held_take (i := 23) (v := ?_) rfl (by kernel_rfl) (by kernel_rfl) (by kernel_rfl) (fun _ _ _ h => h) (by kernel_rfl) ?_ hHeld ?_; rotate_left; focus (((intro w hSw; (try dsimp only at hSw); go_simp) <;> with_reducible rfl); done)
          (try simp only [Act.put, List.setIfInBounds_toArray, List.set_cons_zero, List.set_cons_succ])
          refine held_take (i := 24) (v := ?_) rfl (by kernel_rfl) (by kernel_rfl) (by kernel_rfl) (fun _ _ _ h => h) (by kernel_rfl) ?_ hHeld ?_; rotate_left; focus (((intro w hSw; (try dsimp only at hSw); go_simp) <;> with_reducible rfl); done)
          (try simp only [Act.put, List.setIfInBounds_toArray, List.set_cons_zero, List.set_cons_succ])
          refine held_take (i := 25) (v := ?_) rfl (by kernel_rfl) (by kernel_rfl) (by kernel_rfl) (fun _ _ _ h => h) (by kernel_rfl) ?_ hHeld ?_; rotate_left; focus (((intro w hSw; (try dsimp only at hSw); go_simp) <;> with_reducible rfl); done)
          (try simp only [Act.put, List.setIfInBounds_toArray, List.set_cons_zero, List.set_cons_succ])
          refine held_take (i := 26) (v := ?_) rfl (by kernel_rfl) (by kernel_rfl) (by kernel_rfl) (fun _ _ _ h => h) (by kernel_rfl) ?_ hHeld ?_; rotate_left; focus (((intro w hSw; (try dsimp only at hSw); go_simp) <;> with_reducible rfl); done)
          (try simp only [Act.put, List.setIfInBounds_toArray, List.set_cons_zero, List.set_cons_succ])
          refine held_take (i := 27) (v := ?_) rfl (by kernel_rfl) (by kernel_rfl) (by kernel_rfl) (fun _ _ _ h => h) (by kernel_rfl) ?_ hHeld ?_; rotate_left; focus (((intro w hSw; (try dsimp only at hSw); go_simp) <;> with_reducible rfl); done)
          (try simp only [Act.put, List.setIfInBounds_toArray, List.set_cons_zero, List.set_cons_succ])
          refine wpAnyH_done (by kernel_rfl) ?_ _
          go_wp2
          · go_ret
            exact ⟨by rw [← HRES.out, BAD.out hnm (Or.inr ⟨hk0, by unfold strLe; rw [Bool.or_eq_true]; assumption⟩)]; rfl, by have := HAL.out.trans HBL.out; exact ⟨this.os, this.tape, this.output, this.size, this.block⟩⟩
          · go_roundw
            case rel => exact ⟨k1 + 1, by omega, by go_num, GOOD.out hnm (Or.inr (by unfold strLe; rw [Bool.or_eq_false_iff]; assumption)), by have := HB1.out; exact ⟨this.os, this.tape, this.output, this.size, this.block⟩⟩
            case measure => simp [intOf]; omega
        · skip
          have HNN : Hid (∀ s w, s = nm → Calls Try.prog 106 #[.string s] w (fun e w' => e = .returned (.bool false) ∧ w' = w)) := Lib.hid fun s w hs => by rw [hs, ← Bool.eq_false_iff.2 hnm]; exact rname_any nm w
          refine wp_region_held_drew (S := (fun w' => w'.cell? ⟨w.heap.size, 8, none⟩ = some (.slice (some ⟨q, off, none⟩) n8 c8) ∧ w'.cell? ⟨q, off + k1 * 12, none⟩ = some (.string nm) ∧ w'.cell? ⟨q, off + m * 12, none⟩ = some (.string p))) (by kernel_rfl) ⟨hc8, hn0, hp0⟩ (fun hHeld => ?_)
          refine held_take (i := 0) (v := ?_) rfl (by kernel_rfl) (by kernel_rfl) (by kernel_rfl) (fun _ _ _ h => h) (by kernel_rfl) ?_ hHeld ?_; rotate_left; focus (((intro w hSw; (try dsimp only at hSw); go_simp) <;> with_reducible rfl); done)
          (try simp only [Act.put, List.setIfInBounds_toArray, List.set_cons_zero, List.set_cons_succ])
          refine held_take (i := 1) (v := ?_) rfl (by kernel_rfl) (by kernel_rfl) (by kernel_rfl) (fun _ _ _ h => h) (by kernel_rfl) ?_ hHeld ?_; rotate_left; focus (((intro w hSw; (try dsimp only at hSw); go_simp) <;> with_reducible rfl); done)
          (try simp only [Act.put, List.setIfInBounds_toArray, List.set_cons_zero, List.set_cons_succ])
          refine held_take (i := 2) (v := ?_) rfl (by kernel_rfl) (by kernel_rfl) (by kernel_rfl) (fun _ _ _ h => h) (by kernel_rfl) ?_ hHeld ?_; rotate_left; focus (((intro w hSw; (try dsimp only at hSw); go_simp) <;> with_reducible rfl); done)
          (try simp only [Act.put, List.setIfInBounds_toArray, List.set_cons_zero, List.set_cons_succ])
          refine held_take (i := 3) (v := ?_) rfl (by kernel_rfl) (by kernel_rfl) (by kernel_rfl) (fun _ _ _ h => h) (by kernel_rfl) ?_ hHeld ?_; rotate_left; focus (((intro w hSw; (try dsimp only at hSw); go_simp) <;> with_reducible rfl); done)
          (try simp only [Act.put, List.setIfInBounds_toArray, List.set_cons_zero, List.set_cons_succ])
          refine held_take (i := 4) (v := ?_) rfl (by kernel_rfl) (by kernel_rfl) (by kernel_rfl) (fun _ _ _ h => h) (by kernel_rfl) ?_ hHeld ?_; rotate_left; focus (((intro w hSw; (try dsimp only at hSw); go_simp) <;> with_reducible rfl); done)
          (try simp only [Act.put, List.setIfInBounds_toArray, List.set_cons_zero, List.set_cons_succ])
          refine held_take (i := 5) (v := ?_) rfl (by kernel_rfl) (by kernel_rfl) (by kernel_rfl) (fun _ _ _ h => h) (by kernel_rfl) ?_ hHeld ?_; rotate_left; focus (((intro w hSw; (try dsimp only at hSw); go_simp) <;> with_reducible rfl); done)
          (try simp only [Act.put, List.setIfInBounds_toArray, List.set_cons_zero, List.set_cons_succ])
          refine held_call (i := 6) rfl (by kernel_rfl) (by kernel_rfl) (fun K hK => ?_)
          go_simp
          (refine (HNN.out _ _ rfl).mono ?_; rintro e w1 ⟨rfl, rfl⟩)
          refine hK.out _ _ ?_ (fun hHeld2 => ?_)
          · exact hHeld
          clear hK K hHeld
          have hHeld := hHeld2
          clear hHeld2
          (try simp only [Act.put, List.setIfInBounds_toArray, List.set_cons_zero, List.set_cons_succ])
          refine held_take (i := 7) (v := ?_) rfl (by kernel_rfl) (by kernel_rfl) (by kernel_rfl) (fun _ _ _ h => h) (by kernel_rfl) ?_ hHeld ?_; rotate_left; focus (((intro w hSw; (try dsimp only at hSw); go_simp) <;> with_reducible rfl); done)
          (try simp only [Act.put, List.setIfInBounds_toArray, List.set_cons_zero, List.set_cons_succ])
          refine held_take (i := 8) (v := ?_) rfl (by kernel_rfl) (by kernel_rfl) (by kernel_rfl) (fun _ _ _ h => h) (by kernel_rfl) ?_ hHeld ?_; rotate_left; focus (((intro w hSw; (try dsimp only at hSw); go_simp) <;> with_reducible rfl); done)
          (try simp only [Act.put, List.setIfInBounds_toArray, List.set_cons_zero, List.set_cons_succ])
          refine held_skip (i := 9) rfl (by kernel_rfl) (by kernel_rfl) (by kernel_rfl) (fun _ _ _ h => h) (by kernel_rfl) hHeld ?_
          (try simp only [Act.put, List.setIfInBounds_toArray, List.set_cons_zero, List.set_cons_succ])
          refine held_skip (i := 10) rfl (by kernel_rfl) (by kernel_rfl) (by kernel_rfl) (fun _ _ _ h => h) (by kernel_rfl) hHeld ?_
          (try simp only [Act.put, List.setIfInBounds_toArray, List.set_cons_zero, List.set_cons_succ])
          refine held_skip (i := 11) rfl (by kernel_rfl) (by kernel_rfl) (by kernel_rfl) (fun _ _ _ h => h) (by kernel_rfl) hHeld ?_
          (try simp only [Act.put, List.setIfInBounds_toArray, List.set_cons_zero, List.set_cons_succ])
          refine held_skip (i := 12) rfl (by kernel_rfl) (by kernel_rfl) (by kernel_rfl) (fun _ _ _ h => h) (by kernel_rfl) hHeld ?_
          (try simp only [Act.put, List.setIfInBounds_toArray, List.set_cons_zero, List.set_cons_succ])
          refine held_skip (i := 13) rfl (by kernel_rfl) (by kernel_rfl) (by kernel_rfl) (fun _ _ _ h => h) (by kernel_rfl) hHeld ?_
          (try simp only [Act.put, List.setIfInBounds_toArray, List.set_cons_zero, List.set_cons_succ])
          refine held_skip (i := 14) rfl (by kernel_rfl) (by kernel_rfl) (by kernel_rfl) (fun _ _ _ h => h) (by kernel_rfl) hHeld ?_
          (try simp only [Act.put, List.setIfInBounds_toArray, List.set_cons_zero, List.set_cons_succ])
          refine held_skip (i := 15) rfl (by kernel_rfl) (by kernel_rfl) (by kernel_rfl) (fun _ _ _ h => h) (by kernel_rfl) hHeld ?_
          (try simp only [Act.put, List.setIfInBounds_toArray, List.set_cons_zero, List.set_cons_succ])
          refine held_skip (i := 16) rfl (by kernel_rfl) (by kernel_rfl) (by kernel_rfl) (fun _ _ _ h => h) (by kernel_rfl) hHeld ?_
          (try simp only [Act.put, List.setIfInBounds_toArray, List.set_cons_zero, List.set_cons_succ])
          refine held_skip (i := 17) rfl (by kernel_rfl) (by kernel_rfl) (by kernel_rfl) (fun _ _ _ h => h) (by kernel_rfl) hHeld ?_
          (try simp only [Act.put, List.setIfInBounds_toArray, List.set_cons_zero, List.set_cons_succ])
          refine held_skip (i := 18) rfl (by kernel_rfl) (by kernel_rfl) (by kernel_rfl) (fun _ _ _ h => h) (by kernel_rfl) hHeld ?_
          (try simp only [Act.put, List.setIfInBounds_toArray, List.set_cons_zero, List.set_cons_succ])
          refine held_skip (i := 19) rfl (by kernel_rfl) (by kernel_rfl) (by kernel_rfl) (fun _ _ _ h => h) (by kernel_rfl) hHeld ?_
          (try simp only [Act.put, List.setIfInBounds_toArray, List.set_cons_zero, List.set_cons_succ])
          refine held_skip (i := 20) rfl (by kernel_rfl) (by kernel_rfl) (by kernel_rfl) (fun _ _ _ h => h) (by kernel_rfl) hHeld ?_
          (try simp only [Act.put, List.setIfInBounds_toArray, List.set_cons_zero, List.set_cons_succ])
          refine held_skip (i := 21) rfl (by kernel_rfl) (by kernel_rfl) (by kernel_rfl) (fun _ _ _ h => h) (by kernel_rfl) hHeld ?_
          (try simp only [Act.put, List.setIfInBounds_toArray, List.set_cons_zero, List.set_cons_succ])
          refine held_skip (i := 22) rfl (by kernel_rfl) (by kernel_rfl) (by kernel_rfl) (fun _ _ _ h => h) (by kernel_rfl) hHeld ?_
          (try simp only [Act.put, List.setIfInBounds_toArray, List.set_cons_zero, List.set_cons_succ])
          refine held_skip (i := 23) rfl (by kernel_rfl) (by kernel_rfl) (by kernel_rfl) (fun _ _ _ h => h) (by kernel_rfl) hHeld ?_
          (try simp only [Act.put, List.setIfInBounds_toArray, List.set_cons_zero, List.set_cons_succ])
          refine held_skip (i := 24) rfl (by kernel_rfl) (by kernel_rfl) (by kernel_rfl) (fun _ _ _ h => h) (by kernel_rfl) hHeld ?_
          (try simp only [Act.put, List.setIfInBounds_toArray, List.set_cons_zero, List.set_cons_succ])
          refine held_skip (i := 25) rfl (by kernel_rfl) (by kernel_rfl) (by kernel_rfl) (fun _ _ _ h => h) (by kernel_rfl) hHeld ?_
          (try simp only [Act.put, List.setIfInBounds_toArray, List.set_cons_zero, List.set_cons_succ])
          refine held_skip (i := 26) rfl (by kernel_rfl) (by kernel_rfl) (by kernel_rfl) (fun _ _ _ h => h) (by kernel_rfl) hHeld ?_
          (try simp only [Act.put, List.setIfInBounds_toArray, List.set_cons_zero, List.set_cons_succ])
          refine held_take (i := 27) (v := ?_) rfl (by kernel_rfl) (by kernel_rfl) (by kernel_rfl) (fun _ _ _ h => h) (by kernel_rfl) ?_ hHeld ?_; rotate_left; focus (((intro w hSw; (try dsimp only at hSw); go_simp) <;> with_reducible rfl); done)
          (try simp only [Act.put, List.setIfInBounds_toArray, List.set_cons_zero, List.set_cons_succ])
          refine wpAnyH_done (by kernel_rfl) ?_ _
          go_wp2
          go_ret
          exact ⟨by rw [← HRES.out, BAD0.out (Bool.eq_false_iff.2 hnm)]; rfl, by have := HAL.out.trans HBL.out; exact ⟨this.os, this.tape, this.output, this.size, this.block⟩⟩
    · obtain rfl : k1 = n8 := by omega
      clear hwcell
      go_wp2
      go_ret
      refine ⟨?_, HAL.out.trans HBL.out⟩
      have hok : namesOk ns = true := by
        rw [namesOk, List.all_eq_true]
        intro i hi
        exact HA.out i (by simp at hi; omega)
      rw [← HRES.out, hok]; rfl
end Go.Proofs.Ythanmakakcmkeaa
