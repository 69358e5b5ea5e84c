/- The order of values is the order of their codes, lists of numbers: so it is total, and turns about. Plain. -/
import Derived.Test.YthanmakakcmkeaaOrder
namespace Go.Proofs.Ythanmakakcmkeaa

def lexI : List Int → List Int → Int
  | [], [] => 0
  | [], _ :: _ => -1
  | _ :: _, [] => 1
  | a :: x, b :: y => if a < b then -1 else if b < a then 1 else lexI x y

theorem lexI_refl : ∀ a : List Int, lexI a a = 0
  | [] => rfl
  | a :: x => by simp [lexI, lexI_refl x]
theorem lexI_eq : ∀ a b : List Int, lexI a b = 0 → a = b
  | [], [], _ => rfl
  | [], _ :: _, h => by simp [lexI] at h
  | _ :: _, [], h => by simp [lexI] at h
  | a :: x, b :: y, h => by
    simp only [lexI] at h
    split at h
    · cases h
    · split at h
      · cases h
      · rw [lexI_eq x y h, show a = b by omega]
theorem lexI_anti : ∀ a b : List Int, lexI b a = - lexI a b
  | [], [] => rfl
  | [], _ :: _ => rfl
  | _ :: _, [] => rfl
  | a :: x, b :: y => by
    simp only [lexI]
    by_cases h1 : a < b
    · have : ¬ b < a := by omega
      simp [h1, this]
    · by_cases h2 : b < a
      · simp [h1, h2]
      · simp only [if_neg h1, if_neg h2, lexI_anti x y]
theorem lexI_range : ∀ a b : List Int, lexI a b = -1 ∨ lexI a b = 0 ∨ lexI a b = 1
  | [], [] => by simp [lexI]
  | [], _ :: _ => by simp [lexI]
  | _ :: _, [] => by simp [lexI]
  | a :: x, b :: y => by
    simp only [lexI]
    split
    · simp
    · split
      · simp
      · exact lexI_range x y
theorem lexI_trans : ∀ a b c : List Int, lexI a b < 0 → lexI b c < 0 → lexI a c < 0
  | [], [], _, h, _ => by simp [lexI] at h
  | [], _ :: _, [], _, h => by simp [lexI] at h
  | [], _ :: _, _ :: _, _, _ => by simp [lexI]
  | _ :: _, [], _, h, _ => by simp [lexI] at h
  | _ :: _, _ :: _, [], _, h => by simp [lexI] at h
  | a :: x, b :: y, c :: z, h1, h2 => by
    simp only [lexI] at h1 h2 ⊢
    by_cases h3 : a < b
    · by_cases h4 : b < c
      · rw [if_pos (by omega)]; omega
      · rw [if_neg h4] at h2
        by_cases h5 : c < b
        · rw [if_pos h5] at h2; omega
        · rw [if_pos (by omega)]; omega
    · rw [if_neg h3] at h1
      by_cases h4 : b < a
      · rw [if_pos h4] at h1; omega
      · rw [if_neg h4] at h1
        obtain rfl : a = b := by omega
        by_cases h5 : a < c
        · rw [if_pos h5]; omega
        · rw [if_neg h5] at h2 ⊢
          by_cases h6 : c < a
          · rw [if_pos h6] at h2; omega
          · rw [if_neg h6] at h2 ⊢
            exact lexI_trans x y z h1 h2

def codeB (l : List UInt8) : List Int := l.map (fun c => (c.toNat : Int) + 1) ++ [0]
mutual
def codeV : V → List Int
  | .nil => [1]
  | .bool b => [2, tr b]
  | .int n => [3, n]
  | .float f => [4, placeF f]
  | .text s => 5 :: codeB s.toList
  | .bytes l => 6 :: codeB l
  | .ref n => [7, n]
  | .list l => 8 :: codeL l
  | .dict ns l => 9 :: codeF ns l
  | .recd c r ns l => 10 :: (codeB c.toList ++ (r :: codeF ns l))
  | .nothing => [11]
  | .alien => [0]
def codeL : List V → List Int
  | [] => [0]
  | x :: xs => 1 :: (codeV x ++ codeL xs)
def codeF : List ByteArray → List V → List Int
  | _, [] => [0]
  | ns, x :: xs => 1 :: (codeB (ns.headD ByteArray.empty).toList ++ (codeV x ++ codeF ns.tail xs))
end

/-- the first answer, or where it is none the second -/
def thn (c r : Int) : Int := if c = 0 then r else c
theorem thn_thn (a b c : Int) : thn (thn a b) c = thn a (thn b c) := by
  unfold thn
  by_cases h : a = 0
  · simp [h]
  · simp [h]
theorem thn_zero (c : Int) : thn 0 c = c := by simp [thn]
theorem thn_no (a : Int) : thn a 0 = a := by
  unfold thn
  split
  · rename_i h; exact h.symm
  · rfl

theorem lex_codeB : ∀ (a b : List UInt8) (p q : List Int), lexI (codeB a ++ p) (codeB b ++ q) = thn (cmpL a b) (lexI p q)
  | [], [], p, q => by simp [codeB, lexI, cmpL, thn]
  | [], b :: y, p, q => by
    have : (0 : Int) < (b.toNat : Int) + 1 := by omega
    simp [codeB, lexI, cmpL, this, thn]
  | a :: x, [], p, q => by
    have : (0 : Int) < (a.toNat : Int) + 1 := by omega
    have h2 : ¬ (a.toNat : Int) + 1 < 0 := by omega
    simp [codeB, lexI, cmpL, this, h2, thn]
  | a :: x, b :: y, p, q => by
    have ih := lex_codeB x y p q
    unfold codeB at ih ⊢
    simp only [List.map_cons, List.cons_append, lexI, cmpL, ih, UInt8.lt_iff_toNat_lt]
    by_cases h1 : a.toNat < b.toNat
    · simp [h1, show (a.toNat : Int) + 1 < b.toNat + 1 by omega, thn]
    · by_cases h2 : b.toNat < a.toNat
      · simp [h1, h2, show ¬ (a.toNat : Int) + 1 < b.toNat + 1 by omega, show (b.toNat : Int) + 1 < a.toNat + 1 by omega, thn]
      · simp [h1, h2, show ¬ (a.toNat : Int) + 1 < b.toNat + 1 by omega, show ¬ (b.toNat : Int) + 1 < a.toNat + 1 by omega]

theorem lex_one (a b : Int) (p q : List Int) : lexI (a :: p) (b :: q) = thn (sgn a b) (lexI p q) := by
  simp only [lexI, sgn, thn]
  by_cases h1 : a < b
  · simp [h1]
  · by_cases h2 : b < a
    · simp [h1, h2]
    · simp [h1, h2]
theorem lex_same (a : Int) (p q : List Int) : lexI (a :: p) (a :: q) = lexI p q := by simp [lexI]

theorem code_head (x : V) : ∃ r, codeV x = kindOf x :: r := by cases x <;> simp [codeV, kindOf]
theorem lex_kinds {x y : V} (h : kindOf x ≠ kindOf y) (p q : List Int) : lexI (codeV x ++ p) (codeV y ++ q) = thn (sgn (kindOf x) (kindOf y)) (lexI p q) := by
  obtain ⟨r, hr⟩ := code_head x
  obtain ⟨s, hs⟩ := code_head y
  rw [hr, hs, List.cons_append, List.cons_append, lex_one]
  have : sgn (kindOf x) (kindOf y) ≠ 0 := by unfold sgn; split; omega; split; omega; omega
  unfold thn
  rw [if_neg this, if_neg this]

theorem cmpV_bool (a b : Bool) : cmpV (.bool a) (.bool b) = sgn (tr a) (tr b) := by simp only [cmpV]
theorem cmpV_recd (c : ByteArray) (r : Int) (n : List ByteArray) (a : List V) (d : ByteArray) (s : Int) (m : List ByteArray) (b : List V) : cmpV (.recd c r n a) (.recd d s m b) = thn (cmpT c d) (thn (sgn r s) (cmpF a n m b)) := by simp only [cmpV, thn]
theorem cmpsV_cons (x y : V) (xs ys : List V) : cmpsV (x :: xs) (y :: ys) = thn (cmpV x y) (cmpsV xs ys) := by simp only [cmpsV, thn]
theorem cmpF_cons (x y : V) (xs ys : List V) (ns ms : List ByteArray) : cmpF (x :: xs) ns ms (y :: ys) = thn (cmpT (ns.headD ByteArray.empty) (ms.headD ByteArray.empty)) (thn (cmpV x y) (cmpF xs ns.tail ms.tail ys)) := by simp only [cmpF, thn]

mutual
theorem lex_codeV : ∀ (x y : V) (p q : List Int), lexI (codeV x ++ p) (codeV y ++ q) = thn (cmpV x y) (lexI p q) := by
  intro x y p q
  by_cases hk : kindOf x = kindOf y
  · cases x with
    | nil => cases y <;> simp [kindOf] at hk; simp [codeV, lexI, cmpV, kindOf, sgn, thn]
    | bool a => cases y <;> simp [kindOf] at hk; rename_i b; simp only [codeV, cmpV, List.cons_append, List.nil_append, lex_same, lex_one]
    | int a => cases y <;> simp [kindOf] at hk; rename_i b; simp only [codeV, cmpV, List.cons_append, List.nil_append, lex_same, lex_one]
    | float a => cases y <;> simp [kindOf] at hk; rename_i b; simp only [codeV, cmpV, List.cons_append, List.nil_append, lex_same, lex_one]
    | ref a => cases y <;> simp [kindOf] at hk; rename_i b; simp only [codeV, cmpV, List.cons_append, List.nil_append, lex_same, lex_one]
    | text a => cases y <;> simp [kindOf] at hk; rename_i b; simp only [codeV, cmpV, List.cons_append, lex_same, lex_codeB, cmpT]
    | bytes a => cases y <;> simp [kindOf] at hk; rename_i b; simp only [codeV, cmpV, List.cons_append, lex_same, lex_codeB]
    | list a => cases y <;> simp [kindOf] at hk; rename_i b; simp only [codeV, cmpV, List.cons_append, lex_same]; exact lex_codeL a b p q
    | dict n a => cases y <;> simp [kindOf] at hk; rename_i m b; simp only [codeV, cmpV, List.cons_append, lex_same]; exact lex_codeF a n m b p q
    | recd c r n a =>
      cases y <;> simp [kindOf] at hk
      rename_i d s m b
      rw [cmpV_recd]
      simp only [codeV, List.cons_append, List.append_assoc, lex_same, lex_codeB, lex_one]
      rw [lex_codeF a n m b, thn_thn, thn_thn, cmpT]
    | nothing => cases y <;> simp [kindOf] at hk; simp [codeV, lexI, cmpV, kindOf, sgn, thn]
    | alien => cases y <;> simp [kindOf] at hk; simp [codeV, lexI, cmpV, kindOf, sgn, thn]
  · rw [lex_kinds hk]
    have : cmpV x y = sgn (kindOf x) (kindOf y) := by
      cases x <;> cases y <;> first | rfl | (simp [kindOf] at hk; done) | simp [cmpV, kindOf]
    rw [this]
theorem lex_codeL : ∀ (xs ys : List V) (p q : List Int), lexI (codeL xs ++ p) (codeL ys ++ q) = thn (cmpsV xs ys) (lexI p q) := by
  intro xs ys p q
  cases xs with
  | nil => cases ys <;> simp [codeL, lexI, cmpsV, thn]
  | cons x xs =>
    cases ys with
    | nil => simp [codeL, lexI, cmpsV, thn]
    | cons y ys =>
      rw [cmpsV_cons]
      simp only [codeL, List.cons_append, List.append_assoc, lex_same]
      rw [lex_codeV x y, lex_codeL xs ys, thn_thn]
theorem lex_codeF : ∀ (xs : List V) (ns ms : List ByteArray) (ys : List V) (p q : List Int), lexI (codeF ns xs ++ p) (codeF ms ys ++ q) = thn (cmpF xs ns ms ys) (lexI p q) := by
  intro xs ns ms ys p q
  cases xs with
  | nil => cases ys <;> simp [codeF, lexI, cmpF, thn]
  | cons x xs =>
    cases ys with
    | nil => simp [codeF, lexI, cmpF, thn]
    | cons y ys =>
      rw [cmpF_cons]
      simp only [codeF, List.cons_append, List.append_assoc, lex_same, lex_codeB]
      rw [lex_codeV x y, lex_codeF xs ns.tail ms.tail ys, thn_thn, thn_thn, cmpT]
end

theorem cmpV_code (x y : V) : cmpV x y = lexI (codeV x) (codeV y) := by
  have h := lex_codeV x y [] []
  simp only [List.append_nil, lexI, thn_no] at h
  exact h.symm
theorem cmpV_refl (x : V) : cmpV x x = 0 := by rw [cmpV_code, lexI_refl]
theorem cmpV_anti (x y : V) : cmpV y x = - cmpV x y := by rw [cmpV_code, cmpV_code, lexI_anti]
theorem cmpV_range (x y : V) : cmpV x y = -1 ∨ cmpV x y = 0 ∨ cmpV x y = 1 := by rw [cmpV_code]; exact lexI_range _ _
theorem cmpV_trans {x y z : V} (h1 : cmpV x y < 0) (h2 : cmpV y z < 0) : cmpV x z < 0 := by
  rw [cmpV_code] at *; exact lexI_trans _ _ _ h1 h2
theorem cmpV_zero {x y : V} (h : cmpV x y = 0) : codeV x = codeV y := by rw [cmpV_code] at h; exact lexI_eq _ _ h
theorem cmpV_zero_left {x y : V} (h : cmpV x y = 0) (z : V) : cmpV x z = cmpV y z := by rw [cmpV_code, cmpV_code, cmpV_zero h]
theorem cmpV_zero_right {x y : V} (h : cmpV x y = 0) (z : V) : cmpV z x = cmpV z y := by rw [cmpV_code, cmpV_code, cmpV_zero h]
end Go.Proofs.Ythanmakakcmkeaa
