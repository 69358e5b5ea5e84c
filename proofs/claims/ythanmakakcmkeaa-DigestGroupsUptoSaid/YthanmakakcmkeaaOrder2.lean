/- value.order, slices.CompareFunc over lists and dicts, value.field. -/
import Derived.Test.YthanmakakcmkeaaOrder
namespace Go.Proofs.Ythanmakakcmkeaa
open Go.RowKit

theorem cmpV_kinds {x y : V} (h : kindOf x ≠ kindOf y) : cmpV x y = sgn (kindOf x) (kindOf y) := by
  cases x <;> cases y <;> first | exact absurd rfl h | simp only [cmpV, kindOf]

def OrderAt (x : V) : Prop := ∀ (y : V) (v u : Value) (S T : List Nat) (w : World), VAt w x v S → VAt w y u T → goodV x → goodV y → Calls Try.prog 69 #[v, u] w (Gives (cmpV x y) w)

theorem sgn_ne {a b : Int} (h : a ≠ b) : sgn a b ≠ 0 := by unfold sgn; split; · simp
                                                           · split; · simp
                                                             · omega
theorem sgn_self (a : Int) : sgn a a = 0 := by unfold sgn; rw [if_neg (by omega), if_neg (by omega)]

theorem VAt.isnil {w : World} {x : V} {S : List Nat} (h : VAt w x .nilIface S) : x = .nil := by
  cases x <;> simp [VAt] at h ⊢

set_option maxRecDepth 20000 in
set_option maxHeartbeats 2000000 in
theorem order_kinds (x y : V) (v u : Value) (S T : List Nat) (w : World) (hx : VAt w x v S) (hy : VAt w y u T) (h0 : kindOf x ≠ kindOf y) : Calls Try.prog 69 #[v, u] w (Gives (cmpV x y) w) := by
  rw [cmpV_kinds h0]
  have hk1 := kind_any x v S w hx
  have hk2 := kind_any y u T w hy
  have hc := vcmpInt_any (kindOf x) (kindOf y)
  have hne := sgn_ne h0
  obtain ⟨a, ha⟩ : ∃ a, a = kindOf x := ⟨_, rfl⟩
  obtain ⟨b, hb⟩ : ∃ b, b = kindOf y := ⟨_, rfl⟩
  rw [← ha] at hk1
  rw [← hb] at hk2
  rw [← ha, ← hb] at hc hne ⊢
  clear ha hb
  generalize sgn a b = s at hc hne ⊢
  have hb0 : (s != 0) = true := by simpa using hne
  have HK1 : Hid (∀ z, z = v → Calls Try.prog 93 #[z] w (fun e w' => e = .returned (.int .i64 a) ∧ w = w')) := Lib.hid fun z h => h ▸ hk1
  have HK2 : Hid (∀ z, z = u → Calls Try.prog 93 #[z] w (fun e w' => e = .returned (.int .i64 b) ∧ w = w')) := Lib.hid fun z h => h ▸ hk2
  have hvf := hx.form
  have huf := hy.form
  have hnn : ¬ (v = .nilIface ∧ u = .nilIface) := by
    rintro ⟨rfl, rfl⟩
    exact h0 (by rw [hx.isnil, hy.isnil])
  clear hk1 hk2 hx hy h0 hne
  rcases hvf with rfl | ⟨T1, v, rfl⟩ <;> rcases huf with rfl | ⟨T2, u, rfl⟩
  · exact absurd ⟨rfl, rfl⟩ hnn
  all_goals
    clear hnn
    go_enter Try.func69, Try.ntmps69
    go_wp2_with (first | (go_at_call 93; refine (HK1.out _ ?_).mono ?_; exact rfl; rintro e w1 ⟨rfl, rfl⟩) | (go_at_call 93; refine (HK2.out _ ?_).mono ?_; exact rfl; rintro e w1 ⟨rfl, rfl⟩) | (go_at_call 92; refine (hc _).mono ?_; rintro e w1 ⟨rfl, rfl⟩))
    go_ret
    exact ⟨rfl, Below.refl _ _⟩

theorem kind_two {v u : Value} {k : Int} {w : World} (h1 : Calls Try.prog 93 #[v] w (fun e w' => e = .returned (.int .i64 k) ∧ w = w')) (h2 : Calls Try.prog 93 #[u] w (fun e w' => e = .returned (.int .i64 k) ∧ w = w')) :
    ∀ z, z = v ∨ z = u → Calls Try.prog 93 #[z] w (fun e w' => e = .returned (.int .i64 k) ∧ w' = w) := fun z h => by
  rcases h with rfl | rfl
  · exact h1.mono fun e w' ⟨a, b⟩ => ⟨a, b.symm⟩
  · exact h2.mono fun e w' ⟨a, b⟩ => ⟨a, b.symm⟩

theorem run_ta_is {P : Program} {A : TypeId} {d : TypeDesc} (hd : P.underlying A = some d) (hi : ∀ m, d ≠ .interface m) (xT : TypeId) (v : Value) (w : World) : (Instr.typeAssert (.iface A v) xT A false).run P w = .ok v w := by
  cases d <;> simp [Instr.typeAssert, run_underlying hd] at hi ⊢
theorem tis_bool (v : Value) (w : World) : (Instr.typeAssert (.iface 4 v) 20 4 false).run Try.prog w = .ok v w := run_ta_is Try.underlying4 (fun m h => by cases h) _ _ _
theorem tis_int (v : Value) (w : World) : (Instr.typeAssert (.iface 2 v) 20 2 false).run Try.prog w = .ok v w := run_ta_is Try.underlying2 (fun m h => by cases h) _ _ _
theorem tis_float (v : Value) (w : World) : (Instr.typeAssert (.iface 25 v) 20 25 false).run Try.prog w = .ok v w := run_ta_is Try.underlying25 (fun m h => by cases h) _ _ _
theorem tis_text (v : Value) (w : World) : (Instr.typeAssert (.iface 9 v) 20 9 false).run Try.prog w = .ok v w := run_ta_is Try.underlying9 (fun m h => by cases h) _ _ _
theorem tis_bytes (v : Value) (w : World) : (Instr.typeAssert (.iface 26 v) 20 26 false).run Try.prog w = .ok v w := run_ta_is Try.underlying26 (fun m h => by cases h) _ _ _
theorem tis_ref (v : Value) (w : World) : (Instr.typeAssert (.iface 28 v) 20 28 false).run Try.prog w = .ok v w := run_ta_is Try.underlying28 (fun m h => by cases h) _ _ _
theorem tis_list (v : Value) (w : World) : (Instr.typeAssert (.iface 75 v) 20 75 false).run Try.prog w = .ok v w := run_ta_is Try.underlying75 (fun m h => by cases h) _ _ _
theorem tis_dict (v : Value) (w : World) : (Instr.typeAssert (.iface 77 v) 20 77 false).run Try.prog w = .ok v w := run_ta_is Try.underlying77 (fun m h => by cases h) _ _ _
theorem tis_rec (v : Value) (w : World) : (Instr.typeAssert (.iface 79 v) 20 79 false).run Try.prog w = .ok v w := run_ta_is Try.underlying79 (fun m h => by cases h) _ _ _

set_option maxRecDepth 20000 in
set_option maxHeartbeats 2000000 in
theorem order_int (a b : Int) (v u : Value) (S T : List Nat) (w : World) (hx : VAt w (.int a) v S) (hy : VAt w (.int b) u T) : Calls Try.prog 69 #[v, u] w (Gives (cmpV (.int a) (.int b)) w) := by
  obtain ⟨rfl, _⟩ := (by simpa only [VAt] using hx)
  obtain ⟨rfl, _⟩ := (by simpa only [VAt] using hy)
  have HK : Hid (∀ z, z = _ ∨ z = _ → Calls Try.prog 93 #[z] w (fun e w' => e = .returned (.int .i64 3) ∧ w' = w)) := Lib.hid (kind_two (kind_any (.int a) _ S w hx) (kind_any (.int b) _ T w hy))
  have HC : Hid (∀ w, Calls Try.prog 92 #[.int .i64 3, .int .i64 3] w (fun e w' => e = .returned (.int .i64 0) ∧ w' = w)) := Lib.hid fun w => by have := vcmpInt_any 3 3 w; rwa [sgn_self] at this
  have hta := tis_int
  obtain ⟨a1, a2, a3, a4, a5, a6, a7, a8, a9⟩ := tas_int
  simp only [cmpV]
  have HF := Lib.hid (vcmpInt64_any a b)
  generalize sgn a b = r at HF ⊢
  clear hx hy
  go_enter Try.func69, Try.ntmps69
  go_wp2_with (first | (go_at_call 93; refine (HK.out _ ?_).mono ?_; (first | exact Or.inl rfl | exact Or.inr rfl); rintro e w1 ⟨rfl, rfl⟩) | (go_at_call 92; refine (HC.out _).mono ?_; rintro e w1 ⟨rfl, rfl⟩) | (go_at_call 95; refine (HF.out _).mono ?_; rintro e w1 ⟨rfl, rfl⟩))
  go_ret
  exact ⟨rfl, Below.refl _ _⟩

set_option maxRecDepth 20000 in
set_option maxHeartbeats 2000000 in
theorem order_ref (a b : Int) (v u : Value) (S T : List Nat) (w : World) (hx : VAt w (.ref a) v S) (hy : VAt w (.ref b) u T) : Calls Try.prog 69 #[v, u] w (Gives (cmpV (.ref a) (.ref b)) w) := by
  obtain ⟨rfl, _⟩ := (by simpa only [VAt] using hx)
  obtain ⟨rfl, _⟩ := (by simpa only [VAt] using hy)
  have HK : Hid (∀ z, z = _ ∨ z = _ → Calls Try.prog 93 #[z] w (fun e w' => e = .returned (.int .i64 7) ∧ w' = w)) := Lib.hid (kind_two (kind_any (.ref a) _ S w hx) (kind_any (.ref b) _ T w hy))
  have HC : Hid (∀ w, Calls Try.prog 92 #[.int .i64 7, .int .i64 7] w (fun e w' => e = .returned (.int .i64 0) ∧ w' = w)) := Lib.hid fun w => by have := vcmpInt_any 7 7 w; rwa [sgn_self] at this
  have hta := tis_ref
  obtain ⟨a1, a2, a3, a4, a5, a6, a7, a8, a9⟩ := tas_ref
  simp only [cmpV]
  have HF := Lib.hid (vcmpRef_any a b)
  generalize sgn a b = r at HF ⊢
  clear hx hy
  go_enter Try.func69, Try.ntmps69
  go_wp2_with (first | (go_at_call 93; refine (HK.out _ ?_).mono ?_; (first | exact Or.inl rfl | exact Or.inr rfl); rintro e w1 ⟨rfl, rfl⟩) | (go_at_call 92; refine (HC.out _).mono ?_; rintro e w1 ⟨rfl, rfl⟩) | (go_at_call 100; refine (HF.out _).mono ?_; rintro e w1 ⟨rfl, rfl⟩))
  go_ret
  exact ⟨rfl, Below.refl _ _⟩

set_option maxRecDepth 20000 in
set_option maxHeartbeats 2000000 in
theorem order_text (a b : ByteArray) (v u : Value) (S T : List Nat) (w : World) (hx : VAt w (.text a) v S) (hy : VAt w (.text b) u T) : Calls Try.prog 69 #[v, u] w (Gives (cmpV (.text a) (.text b)) w) := by
  obtain ⟨rfl, _⟩ := (by simpa only [VAt] using hx)
  obtain ⟨rfl, _⟩ := (by simpa only [VAt] using hy)
  have HK : Hid (∀ z, z = _ ∨ z = _ → Calls Try.prog 93 #[z] w (fun e w' => e = .returned (.int .i64 5) ∧ w' = w)) := Lib.hid (kind_two (kind_any (.text a) _ S w hx) (kind_any (.text b) _ T w hy))
  have HC : Hid (∀ w, Calls Try.prog 92 #[.int .i64 5, .int .i64 5] w (fun e w' => e = .returned (.int .i64 0) ∧ w' = w)) := Lib.hid fun w => by have := vcmpInt_any 5 5 w; rwa [sgn_self] at this
  have hta := tis_text
  obtain ⟨a1, a2, a3, a4, a5, a6, a7, a8, a9⟩ := tas_text
  simp only [cmpV]
  have HF := Lib.hid (vcmpString_any a b)
  generalize cmpT a b = r at HF ⊢
  clear hx hy
  go_enter Try.func69, Try.ntmps69
  go_wp2_with (first | (go_at_call 93; refine (HK.out _ ?_).mono ?_; (first | exact Or.inl rfl | exact Or.inr rfl); rintro e w1 ⟨rfl, rfl⟩) | (go_at_call 92; refine (HC.out _).mono ?_; rintro e w1 ⟨rfl, rfl⟩) | (go_at_call 98; refine (HF.out _).mono ?_; rintro e w1 ⟨rfl, rfl⟩))
  go_ret
  exact ⟨rfl, Below.refl _ _⟩

set_option maxRecDepth 20000 in
set_option maxHeartbeats 2000000 in
theorem order_bool (a b : Bool) (v u : Value) (S T : List Nat) (w : World) (hx : VAt w (.bool a) v S) (hy : VAt w (.bool b) u T) : Calls Try.prog 69 #[v, u] w (Gives (cmpV (.bool a) (.bool b)) w) := by
  obtain ⟨rfl, hwx⟩ := (by simpa only [VAt] using hx)
  obtain ⟨rfl, hwy⟩ := (by simpa only [VAt] using hy)
  have HK : Hid (∀ z, z = _ ∨ z = _ → Calls Try.prog 93 #[z] w (fun e w' => e = .returned (.int .i64 2) ∧ w' = w)) := Lib.hid (kind_two (kind_any (.bool a) _ S w hx) (kind_any (.bool b) _ T w hy))
  have HC : Hid (∀ w, Calls Try.prog 92 #[.int .i64 2, .int .i64 2] w (fun e w' => e = .returned (.int .i64 0) ∧ w' = w)) := Lib.hid fun w => by have := vcmpInt_any 2 2 w; rwa [sgn_self] at this
  have hta := tis_bool
  obtain ⟨a1, a2, a3, a4, a5, a6, a7, a8, a9⟩ := tas_bool
  simp only [cmpV]
  have HF := Lib.hid vtruth_any
  have HG := Lib.hid vcmpInt_any
  clear hx hy hwx hwy
  go_enter Try.func69, Try.ntmps69
  go_wp2_with (first | (go_at_call 93; refine (HK.out _ ?_).mono ?_; (first | exact Or.inl rfl | exact Or.inr rfl); rintro e w1 ⟨rfl, rfl⟩) | (go_at_call 92; refine (HC.out _).mono ?_; rintro e w1 ⟨rfl, rfl⟩))
  go_quiet (first | (go_at_call 94; refine Calls.quiet_of_same (HF.out _ _)) | (go_at_call 92; refine Calls.quiet_of_same (HG.out _ _ _)))
  go_wp2
  go_ret
  exact ⟨rfl, below_drewN (Below.refl _ _) _⟩

set_option maxRecDepth 20000 in
set_option maxHeartbeats 2000000 in
theorem order_float (a b : Nat) (v u : Value) (S T : List Nat) (w : World) (hx : VAt w (.float a) v S) (hy : VAt w (.float b) u T) : Calls Try.prog 69 #[v, u] w (Gives (cmpV (.float a) (.float b)) w) := by
  obtain ⟨rfl, hwx⟩ := (by simpa only [VAt] using hx)
  obtain ⟨rfl, hwy⟩ := (by simpa only [VAt] using hy)
  have HK : Hid (∀ z, z = _ ∨ z = _ → Calls Try.prog 93 #[z] w (fun e w' => e = .returned (.int .i64 4) ∧ w' = w)) := Lib.hid (kind_two (kind_any (.float a) _ S w hx) (kind_any (.float b) _ T w hy))
  have HC : Hid (∀ w, Calls Try.prog 92 #[.int .i64 4, .int .i64 4] w (fun e w' => e = .returned (.int .i64 0) ∧ w' = w)) := Lib.hid fun w => by have := vcmpInt_any 4 4 w; rwa [sgn_self] at this
  have hta := tis_float
  obtain ⟨a1, a2, a3, a4, a5, a6, a7, a8, a9⟩ := tas_float
  simp only [cmpV]
  have HF : Hid (∀ z w, z = a ∨ z = b → Calls Try.prog 97 #[.float .f64 z] w (fun e w' => e = .returned (.int .u64 (placeF z)) ∧ w' = w)) :=
    Lib.hid fun z w h => vplace_any z w (by rcases h with rfl | rfl; have := hwx.2; simpa [Lit.wf] using this; have := hwy.2; simpa [Lit.wf] using this)
  have HG := Lib.hid vcmpU64_any
  clear hx hy hwx hwy
  go_enter Try.func69, Try.ntmps69
  go_wp2_with (first | (go_at_call 93; refine (HK.out _ ?_).mono ?_; (first | exact Or.inl rfl | exact Or.inr rfl); rintro e w1 ⟨rfl, rfl⟩) | (go_at_call 92; refine (HC.out _).mono ?_; rintro e w1 ⟨rfl, rfl⟩))
  go_quiet (first | (go_at_call 97; refine Calls.quiet_of_same (HF.out _ _ ?_); first | exact Or.inl rfl | exact Or.inr rfl) | (go_at_call 96; refine Calls.quiet_of_same (HG.out _ _ _)))
  go_wp2
  go_ret
  exact ⟨rfl, below_drewN (Below.refl _ _) _⟩

set_option maxRecDepth 20000 in
set_option maxHeartbeats 2000000 in
theorem order_nil (v u : Value) (S T : List Nat) (w : World) (hx : VAt w .nil v S) (hy : VAt w .nil u T) : Calls Try.prog 69 #[v, u] w (Gives (cmpV .nil .nil) w) := by
  obtain ⟨rfl, _⟩ := (by simpa only [VAt] using hx)
  obtain ⟨rfl, _⟩ := (by simpa only [VAt] using hy)
  have HK : Hid (∀ z, z = _ ∨ z = _ → Calls Try.prog 93 #[z] w (fun e w' => e = .returned (.int .i64 1) ∧ w' = w)) := Lib.hid (kind_two (kind_any (.nil) _ S w hx) (kind_any (.nil) _ T w hy))
  have HC : Hid (∀ w, Calls Try.prog 92 #[.int .i64 1, .int .i64 1] w (fun e w' => e = .returned (.int .i64 0) ∧ w' = w)) := Lib.hid fun w => by have := vcmpInt_any 1 1 w; rwa [sgn_self] at this
  obtain ⟨a1, a2, a3, a4, a5, a6, a7, a8, a9⟩ := tas_nil
  have e : cmpV .nil .nil = 0 := by simp [cmpV, kindOf, sgn]
  rw [e]
  clear hx hy e
  go_enter Try.func69, Try.ntmps69
  go_wp2_with (first | (go_at_call 93; refine (HK.out _ ?_).mono ?_; (first | exact Or.inl rfl | exact Or.inr rfl); rintro e w1 ⟨rfl, rfl⟩) | (go_at_call 92; refine (HC.out _).mono ?_; rintro e w1 ⟨rfl, rfl⟩))
  go_ret
  exact ⟨rfl, Below.refl _ _⟩

set_option maxRecDepth 20000 in
set_option maxHeartbeats 2000000 in
theorem order_bytes (a b : List UInt8) (v u : Value) (S T : List Nat) (w : World) (hx : VAt w (.bytes a) v S) (hy : VAt w (.bytes b) u T) : Calls Try.prog 69 #[v, u] w (Gives (cmpV (.bytes a) (.bytes b)) w) := by
  obtain ⟨g1, c1, rfl, hr1, _, hl1⟩ := (by simpa only [VAt] using hx)
  obtain ⟨g2, c2, rfl, hr2, _, hl2⟩ := (by simpa only [VAt] using hy)
  have HK : Hid (∀ z, z = _ ∨ z = _ → Calls Try.prog 93 #[z] w (fun e w' => e = .returned (.int .i64 6) ∧ w' = w)) := Lib.hid (kind_two (kind_any (.bytes a) _ S w hx) (kind_any (.bytes b) _ T w hy))
  have HC : Hid (∀ w, Calls Try.prog 92 #[.int .i64 6, .int .i64 6] w (fun e w' => e = .returned (.int .i64 0) ∧ w' = w)) := Lib.hid fun w => by have := vcmpInt_any 6 6 w; rwa [sgn_self] at this
  have hta := tis_bytes
  obtain ⟨a1, a2, a3, a4, a5, a6, a7, a8, a9⟩ := tas_bytes
  simp only [cmpV]
  have HF := Lib.hid (cmpBytes_any a b g1 c1 g2 c2 w hr1 hr2 hl1 _ rfl)
  generalize cmpL a b = r at HF ⊢
  clear hx hy hr1 hr2
  go_enter Try.func69, Try.ntmps69
  go_wp2_with (first | (go_at_call 93; refine (HK.out _ ?_).mono ?_; (first | exact Or.inl rfl | exact Or.inr rfl); rintro e w1 ⟨rfl, rfl⟩) | (go_at_call 92; refine (HC.out _).mono ?_; rintro e w1 ⟨rfl, rfl⟩) | (go_at_call 99; refine HF.out.mono ?_; rintro e w1 ⟨rfl, rfl⟩))
  go_ret
  exact ⟨rfl, Below.refl _ _⟩
end Go.Proofs.Ythanmakakcmkeaa
