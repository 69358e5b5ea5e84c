/- Groups of a list and of the list turned about, in plain Lean. -/
import Derived.Test.YthanmakakcmkeaaRgroup
namespace Go.Proofs.Ythanmakakcmkeaa
open Go.RowKit

section
variable {α : Type} (c : α → α → Int)
/-- how many of x's kind are told -/
def cntOf : List (α × Int) → α → Int
  | [], _ => 0
  | (y, n) :: R, x => (if c y x = 0 then n else 0) + cntOf R x
/-- how many of x's kind are there -/
def numOf : List α → α → Int
  | [], _ => 0
  | y :: l, x => (if c y x = 0 then 1 else 0) + numOf l x
theorem cnt_ins (hz : ∀ x y z, c x y = 0 → c x z = c y z) : ∀ (R : List (α × Int)) (y x : α), cntOf c (insK c R y) x = cntOf c R x + (if c y x = 0 then 1 else 0)
  | [], y, x => by simp [insK, cntOf]
  | (u, n) :: R, y, x => by
    simp only [insK]
    split
    · simp only [cntOf, cnt_ins hz R y x]; omega
    · split
      · rename_i h
        simp only [cntOf, hz _ _ x h]
        split <;> omega
      · simp only [cntOf]; split <;> split <;> omega
theorem numOf_append (l m : List α) (x : α) : numOf c (l ++ m) x = numOf c l x + numOf c m x := by
  induction l with
  | nil => simp [numOf]
  | cons y l ih => simp only [List.cons_append, numOf, ih]; omega
theorem numOf_reverse (l : List α) (x : α) : numOf c l.reverse x = numOf c l x := by
  induction l with
  | nil => rfl
  | cons y l ih => simp only [List.reverse_cons, numOf_append, numOf, ih]; omega
theorem cnt_group (hz : ∀ x y z, c x y = 0 → c x z = c y z) (l : List α) (x : α) : cntOf c (groupK c l) x = numOf c l x := by
  suffices h : ∀ (l : List α) (R : List (α × Int)), cntOf c (l.foldl (insK c) R) x = cntOf c R x + numOf c l x by simpa [groupK, cntOf] using h l []
  intro l
  induction l with
  | nil => intro R; simp [numOf]
  | cons y l ih => intro R; simp only [List.foldl_cons, ih, cnt_ins c hz, numOf]; omega
theorem cnt_none {R : List (α × Int)} {x : α} (h : ∀ z ∈ R, c z.1 x ≠ 0) : cntOf c R x = 0 := by
  induction R with
  | nil => rfl
  | cons z R ih =>
    obtain ⟨y, n⟩ := z
    have h1 := h (y, n) (by simp)
    simp only [cntOf, ih (fun z hz => h z (by simp [hz])), if_neg h1]; rfl
theorem cnt_nonneg {R : List (α × Int)} (h : ∀ z ∈ R, 1 ≤ z.2) (x : α) : 0 ≤ cntOf c R x := by
  induction R with
  | nil => exact Int.le_refl _
  | cons z R ih =>
    obtain ⟨y, n⟩ := z
    have h1 := h (y, n) (by simp)
    have h2 := ih (fun z hz => h z (by simp [hz]))
    simp only [cntOf]
    dsimp only at h1
    split <;> omega

/-- two sorted lists that count alike -/
theorem groups_alike (hr : ∀ x, c x x = 0) (ht : ∀ x y z, c x y < 0 → c y z < 0 → c x z < 0) (ha : ∀ x y, c y x = - c x y) (hz : ∀ x y z, c x y = 0 → c x z = c y z) :
    ∀ (R R' : List (α × Int)), R.Pairwise (fun a b => c a.1 b.1 < 0) → R'.Pairwise (fun a b => c a.1 b.1 < 0) → (∀ z ∈ R, 1 ≤ z.2) → (∀ z ∈ R', 1 ≤ z.2) → (∀ x, cntOf c R x = cntOf c R' x) →
      R.length = R'.length ∧ ∀ (k : Nat) (z z' : α × Int), R[k]? = some z → R'[k]? = some z' → c z.1 z'.1 = 0 ∧ z.2 = z'.2
  | [], [], _, _, _, _, _ => ⟨rfl, by simp⟩
  | [], (y, n) :: R', _, _, _, h2, h => by
    have h3 := h y
    have h4 := h2 (y, n) (by simp)
    have h5 := cnt_nonneg c (fun z hz => h2 z (List.mem_cons_of_mem _ hz)) y
    simp only [cntOf, if_pos (hr y)] at h3
    dsimp only at h4
    omega
  | (y, n) :: R, [], _, _, h1, _, h => by
    have h3 := h y
    have h4 := h1 (y, n) (by simp)
    have h5 := cnt_nonneg c (fun z hz => h1 z (List.mem_cons_of_mem _ hz)) y
    simp only [cntOf, if_pos (hr y)] at h3
    dsimp only at h4
    omega
  | (y, n) :: R, (y', n') :: R', hs, hs', h1, h2, h => by
    obtain ⟨s1, s2⟩ := List.pairwise_cons.1 hs
    obtain ⟨s1', s2'⟩ := List.pairwise_cons.1 hs'
    have hn : 1 ≤ n := h1 (y, n) (by simp)
    have hn' : 1 ≤ n' := h2 (y', n') (by simp)
    have hp := fun x => cnt_nonneg c (fun z hz => h1 z (List.mem_cons_of_mem _ hz)) x
    have hp' := fun x => cnt_nonneg c (fun z hz => h2 z (List.mem_cons_of_mem _ hz)) x
    have h0 : c y y' = 0 := by
      rcases Int.lt_trichotomy (c y y') 0 with hlt | h0 | hgt
      · exfalso
        have hn0 : cntOf c ((y', n') :: R') y = 0 := cnt_none c fun z hzm => by
          rcases List.mem_cons.1 hzm with rfl | hzm
          · show c y' y ≠ 0; rw [ha]; omega
          · have := ht _ _ _ hlt (s1' z hzm); rw [ha]; omega
        have := h y
        rw [hn0] at this
        simp only [cntOf, if_pos (hr y)] at this
        have := hp y; omega
      · exact h0
      · exfalso
        have hlt : c y' y < 0 := by rw [ha]; omega
        have hn0 : cntOf c ((y, n) :: R) y' = 0 := cnt_none c fun z hzm => by
          rcases List.mem_cons.1 hzm with rfl | hzm
          · show c y y' ≠ 0; omega
          · have := ht _ _ _ hlt (s1 z hzm); rw [ha]; omega
        have := h y'
        rw [hn0] at this
        simp only [cntOf, if_pos (hr y')] at this
        have := hp' y'; omega
    have e1 : cntOf c R y = 0 := cnt_none c fun z hzm => by have h3 : c y z.1 < 0 := s1 z hzm; rw [ha]; omega
    have e2 : cntOf c R' y = 0 := cnt_none c fun z hzm => by have h3 : c y' z.1 < 0 := s1' z hzm; rw [ha, hz _ _ _ h0]; omega
    have e3 : c y' y = 0 := by rw [ha]; omega
    have hnn : n = n' := by
      have := h y
      simp only [cntOf, if_pos (hr y), if_pos e3, e1, e2] at this
      omega
    obtain ⟨hl, hk⟩ := groups_alike hr ht ha hz R R' s2 s2' (fun z hzm => h1 z (by simp [hzm])) (fun z hzm => h2 z (by simp [hzm])) fun x => by
      have := h x
      simp only [cntOf, hz _ _ x h0, hnn] at this
      omega
    refine ⟨by simp [hl], fun k z z' hz1 hz2 => ?_⟩
    cases k with
    | zero => simp at hz1 hz2; subst hz1; subst hz2; exact ⟨h0, hnn⟩
    | succ k => exact hk k z z' (by simpa using hz1) (by simpa using hz2)
end

theorem groups_turned (l : List V) : (groupK cmpV l.reverse).length = (groupK cmpV l).length ∧ ∀ (k : Nat) (z z' : V × Int), (groupK cmpV l.reverse)[k]? = some z → (groupK cmpV l)[k]? = some z' → cmpV z.1 z'.1 = 0 ∧ z.2 = z'.2 :=
  groups_alike cmpV cmpV_refl (fun _ _ _ => cmpV_trans) cmpV_anti (fun _ _ z h => cmpV_zero_left h z) _ _ (cmpV_sorted _) (cmpV_sorted _) (groupK_pos cmpV _) (groupK_pos cmpV _) fun x => by
    rw [cnt_group cmpV (fun _ _ z h => cmpV_zero_left h z), cnt_group cmpV (fun _ _ z h => cmpV_zero_left h z), numOf_reverse]

theorem errG_zero : ∀ {l : List V}, (∀ x ∈ l, (checkV x).2 = 0) → errG l = 0
  | [], _ => rfl
  | x :: l, h => by
    rw [errG, if_pos (h x (by simp))]
    exact errG_zero fun y hy => h y (by simp [hy])
theorem errG_turned (l : List V) : errG l.reverse = 0 ↔ errG l = 0 :=
  ⟨fun h => errG_zero fun x hx => errG_good h x (by simpa using hx), fun h => errG_zero fun x hx => errG_good h x (by simpa using hx)⟩

theorem groups_terms (l : List Tm) : groupK cmpV (builds l) = (groupK cT l).map (fun z => (build z.1, z.2)) := by
  rw [groupK_map build cT cmpV (fun _ _ => rfl), builds_map]

/-- two rows that grow side by side -/
structure Two (w0 w : World) (n : Nat) (xs : List V) (g cap : Nat) (us : List Value) (S : List Nat) (m : Nat) (ys : List V) (h cap' : Nat) (us' : List Value) (S' : List Nat) : Prop where
  r1 : Row w 20 1 g cap n us
  v1 : VsAt w xs us S
  r2 : Row w 20 1 h cap' m us'
  v2 : VsAt w ys us' S'
  d1 : ∀ b ∈ S ++ S', b ≠ g ∧ b ≠ h
  d2 : g ≠ h
  new : ∀ b ∈ g :: h :: (S ++ S'), w0.heap.size ≤ b
  below : Below w0.heap.size w0 w

theorem Two.swap {w0 w : World} {n m g cap h cap' : Nat} {xs ys : List V} {us us' : List Value} {S S' : List Nat} (k : Two w0 w n xs g cap us S m ys h cap' us' S') : Two w0 w m ys h cap' us' S' n xs g cap us S :=
  ⟨k.r2, k.v2, k.r1, k.v1, fun b hb => (k.d1 b (by simp at hb ⊢; exact hb.symm)).symm, k.d2.symm, fun b hb => k.new b (by simp at hb ⊢; rcases hb with hb | hb | hb | hb <;> simp [hb]), k.below⟩
theorem Two.start (w : World) : Two w ((w.alloc (.cells #[] 20)).alloc (.cells #[] 20)) 0 [] w.heap.size 0 [] [] 0 [] (w.heap.size + 1) 0 [] [] :=
  ⟨(Row.made w 20 1 #[] 0 (by decide) rfl).alloc _, by simp [VsAt], by simpa using Row.made (w.alloc (.cells #[] 20)) 20 1 #[] 0 (by decide) rfl, by simp [VsAt], by simp, by omega, by simp, ((Below.refl _ _).alloc (Nat.le_refl _) _).alloc (by simp) _⟩
theorem Two.step {w0 wr w1 w2 : World} {n m g cap h cap' : Nat} {xs ys : List V} {us us' : List Value} {S S' : List Nat} (k : Two w0 wr n xs g cap us S m ys h cap' us' S')
    {x : V} {v : Value} {S1 : List Nat} {o : Obj} {g2 cap2 : Nat} {flat2 : List Value} (hb : Below wr.heap.size wr w1) (hv : VAt w1 x v S1) (hS : ∀ b ∈ S1, wr.heap.size ≤ b)
    (hr : Row w2 20 1 g2 cap2 (n + 1) flat2) (he : flat2 = us ++ [v]) (hf : Fr [g] (w1.alloc o) w2) (hg : g2 = g ∨ (w1.alloc o).heap.size ≤ g2) :
    Two w0 w2 (n + 1) (xs ++ [x]) g2 cap2 (us ++ [v]) (S ++ S1) m ys h cap' us' S' := by
  subst he
  have hglt := k.r1.lt
  have hhlt := k.r2.lt
  have hs1 := hb.size
  have hg0 := k.new g (by simp)
  have hbw := k.below.size
  have hfs := hf.size
  simp only [World.size_alloc] at hfs hg
  have hS0 : ∀ b ∈ S, b < wr.heap.size := VsAt.lt xs k.v1
  have hS0' : ∀ b ∈ S', b < wr.heap.size := VsAt.lt ys k.v2
  have hS1 : ∀ b ∈ S1, b < w1.heap.size := VAt.lt x hv
  have hal : Below w1.heap.size w1 (w1.alloc o) := (Below.refl _ _).alloc (Nat.le_refl _) o
  have hgn : ∀ b, b < w1.heap.size → b ≠ g → b ≠ g2 := fun b h1 h2 h3 => by rcases hg with e | e <;> omega
  have hgS1 : ∀ b ∈ S1, b ≠ g := fun b hm e => by have := hS b hm; omega
  refine ⟨hr, ?_, ?_, ?_, ?_, ?_, ?_, ?_⟩
  · exact VsAt.snoc ((hv.below hal).fr hf (fun b hm => by simpa using hgS1 b hm)) _ (((k.v1.below hb).below hal).fr hf (fun b hm => by have := (k.d1 b (by simp [hm])).1; simpa using this))
  · exact ((k.r2.below hb).below hal).fr hf (by simpa using k.d2.symm)
  · exact ((k.v2.below hb).below hal).fr hf (fun b hm => by have := (k.d1 b (by simp [hm])).1; simpa using this)
  · intro b hm
    simp only [List.mem_append] at hm
    rcases hm with (hm | hm) | hm
    · have := k.d1 b (by simp [hm]); have := hS0 b hm; exact ⟨hgn b (by omega) (by omega), by omega⟩
    · have := hS b hm; exact ⟨hgn b (hS1 b hm) (hgS1 b hm), by omega⟩
    · have := k.d1 b (by simp [hm]); have := hS0' b hm; exact ⟨hgn b (by omega) (by omega), by omega⟩
  · exact fun e => hgn h (by omega) k.d2.symm e.symm
  · intro b hm
    simp only [List.mem_cons, List.mem_append] at hm
    rcases hm with rfl | rfl | (hm | hm) | hm
    · rcases hg with e | e <;> omega
    · exact k.new _ (by simp)
    · exact k.new b (by simp [hm])
    · have := hS b hm; omega
    · exact k.new b (by simp [hm])
  · exact ((k.below.trans (hb.mono hbw)).trans (hal.mono (by omega))).trans (hf.below _ (by simp; omega) (by simpa using hg0))

theorem builds_rev (l : List Tm) : builds l.reverse = (builds l).reverse := by rw [builds_map, builds_map, List.map_reverse]
theorem builds_take_succ {l : List Tm} {k : Nat} (h : k < l.length) : builds (l.take (k + 1)) = builds (l.take k) ++ [build l[k]] := by
  rw [List.take_succ_eq_append_getElem h, builds_append]; simp [builds]
theorem rev_take_succ {l : List Tm} {k : Nat} (h : k < l.length) : builds (l.reverse.take (k + 1)) = builds (l.reverse.take k) ++ [build l[l.length - 1 - k]] := by
  rw [builds_take_succ (by simpa using h)]; simp
theorem sum_one : groupK cmpV [.bool true, .bool true] = [(.bool true, 2)] := by
  simp [groupK, insK, cmpV_refl]

theorem sum_nonneg : ∀ {l : List Int}, (∀ z ∈ l, 1 ≤ z) → 0 ≤ l.sum
  | [], _ => by simp
  | x :: l, h => by
    have h1 := h x (by simp)
    have h2 := sum_nonneg (l := l) fun z hz => h z (by simp [hz])
    simp only [List.sum_cons]; omega
theorem sum_part {l : List Int} (h : ∀ z ∈ l, 1 ≤ z) (i : Nat) : 0 ≤ (l.take i).sum ∧ (l.take i).sum ≤ l.sum := by
  have h1 := sum_nonneg (l := l.take i) fun z hz => h z (List.mem_of_mem_take hz)
  have h2 := sum_nonneg (l := l.drop i) fun z hz => h z (List.mem_of_mem_drop hz)
  have h3 : l.sum = (l.take i).sum + (l.drop i).sum := by rw [← List.sum_append, List.take_append_drop]
  omega
theorem sum_next {l : List Int} {i : Nat} {n : Int} (h : l[i]? = some n) : (l.take (i + 1)).sum = (l.take i).sum + n := by
  obtain ⟨hi, rfl⟩ := List.getElem?_eq_some_iff.1 h
  rw [List.take_succ_eq_append_getElem hi, List.sum_append]; simp

/-- what stands at place i of the three groups -/
structure At (l : List Tm) (i : Nat) (t : Tm) (n : Int) (x : V) : Prop where
  want : (groupK cT l)[i]? = some (t, n)
  a : (groupK cmpV (builds l))[i]? = some (build t, n)
  b : (groupK cmpV (builds l).reverse)[i]? = some (x, n)
  same : cmpV x (build t) = 0
  good : (checkV (build t)).2 = 0
  goodx : (checkV x).2 = 0
  lo : 0 ≤ (((groupK cT l).map (·.2)).take i).sum
  hi : (((groupK cT l).map (·.2)).take i).sum + n ≤ l.length
  next : (((groupK cT l).map (·.2)).take (i + 1)).sum = (((groupK cT l).map (·.2)).take i).sum + n
  one : 1 ≤ n
theorem groups_len (l : List Tm) : (groupK cmpV (builds l)).length = (groupK cT l).length := by rw [groups_terms]; simp
theorem at_group {l : List Tm} (he : errG (builds l) = 0) {i : Nat} (hi : i < (groupK cT l).length) : ∃ t n x, At l i t n x := by
  have hpos : ∀ z ∈ (groupK cT l).map (·.2), 1 ≤ z := fun z hz => by obtain ⟨y, hy, rfl⟩ := List.mem_map.1 hz; exact groupK_pos cT l y hy
  obtain ⟨hlen, hsame⟩ := groups_turned (builds l)
  have hA : (groupK cmpV (builds l))[i]? = some (build ((groupK cT l)[i]).1, ((groupK cT l)[i]).2) := by rw [groups_terms]; simp [hi]
  have hB : i < (groupK cmpV (builds l).reverse).length := by rw [hlen, groups_len]; exact hi
  obtain ⟨h1, h2⟩ := hsame i ((groupK cmpV (builds l).reverse)[i]) _ (by simp [hB]) hA
  dsimp only at h1 h2
  have hn : ((groupK cT l).map (·.2))[i]? = some ((groupK cT l)[i]).2 := by simp [hi]
  have hnx := sum_next hn
  have h3 := sum_part hpos i
  have h4 := sum_part hpos (i + 1)
  have h5 := groupK_sum cT l
  refine ⟨((groupK cT l)[i]).1, ((groupK cT l)[i]).2, ((groupK cmpV (builds l).reverse)[i]).1, by simp [hi], hA, ?_, h1, ?_, ?_, h3.1, by omega, hnx, groupK_pos cT l _ (List.getElem_mem hi)⟩
  · rw [← h2]; simp [hB]
  · exact errG_good he _ (groupK_mem cmpV _ _ (List.mem_of_getElem? hA))
  · have := groupK_mem cmpV _ _ (List.getElem_mem hB)
    exact errG_good he _ (by simpa using this)

theorem is_true (x : V) (t : Tm) (v : Value) (S : List Nat) (q0 q1 q2 q3 q4 q5 q6 q7 q8 q9 q10 : Value) (w : World) (B : Nat) (hB : B ≤ w.heap.size) (h : VAt w x v S) (ht : TmAt w B t [q0, q1, q2, q3, q4, q5, q6, q7, q8, q9, q10]) (hx : (checkV x).2 = 0) (hc : cmpV x (build t) = 0) :
    Calls Try.prog 10 #[v, .agg #[q0, q1, q2, q3, q4, q5, q6, q7, q8, q9, q10]] w (Tells true w) := by
  have := is_any x t v S q0 q1 q2 q3 q4 q5 q6 q7 q8 q9 q10 w B hB h ht
  rwa [same_plain x t 0 (check_okD hx) (check_good hx) (h.fl _) (ht.fl _) hc] at this

theorem Cnts.at {B : Nat} {w : World} {R : List (V × Int)} {A : Option Addr} {cap : Nat} {us : List Value} {S : List Nat} (h : Cnts B w R A cap us S) {i : Nat} {x : V} {n : Int} (hi : R[i]? = some (x, n)) :
    ∃ g v T, A = some ⟨g, 0, none⟩ ∧ us[i]? = some v ∧ VAt w x v T ∧ (∀ b ∈ T, b ∈ S) ∧ g < w.heap.size ∧ w.cell? ⟨g, i * 2, none⟩ = some v ∧ w.cell? ⟨g, i * 2 + 1, none⟩ = some (.int .i64 n) := by
  have hil : i < R.length := (List.getElem?_eq_some_iff.1 hi).1
  obtain ⟨v, T, h1, h2, h3⟩ := VsAt.get _ h.vals i x (by simp [hi])
  rcases h.row with ⟨_, _, h0, _⟩ | ⟨g, rfl, hr⟩
  · omega
  · obtain ⟨e1, e2⟩ := cnt_get (vs := us) (ns := R.map (·.2)) (k := i) (n := n) h1 (by simp [hi])
    exact ⟨g, v, T, rfl, h1, h2, h3, hr.lt, by rw [hr.cell _ (by omega), e1], by rw [hr.cell _ (by omega), e2]⟩

theorem row_full (w : World) (e : Nat) (cs : Array Value) (h : cs.size ≤ maxLen) : Row (w.alloc (.cells cs e)) e 1 w.heap.size cs.size cs.size cs.toList :=
  ⟨by simp, Nat.le_refl _, h, cs, heap_alloc_new w _, by simp, by rw [Nat.mul_one]; exact List.take_of_length_le (by simp)⟩
def One (w : World) (e : Ending) (w' : World) : Prop := ∃ g cap, e = .returned (.tuple #[.slice (some ⟨g, 0, none⟩) 1 cap, .int .i64 0]) ∧ w'.cell? ⟨g, 1, none⟩ = some (.int .i64 2) ∧ Below w.heap.size w w'
theorem one_any (w : World) : Calls Try.prog 8 #[.slice (some ⟨w.heap.size, 0, none⟩) 2 2] (w.alloc (.cells #[.iface 4 (.bool true), .iface 4 (.bool true)] 20)) (One w) := by
  refine (group_good [.bool true, .bool true] w.heap.size 2 [.iface 4 (.bool true), .iface 4 (.bool true)] [] _ (row_full w 20 #[.iface 4 (.bool true), .iface 4 (.bool true)] (by decide)) (by simp only [VsAt, VAt]; exact ⟨_, _, [], [], rfl, rfl, ⟨rfl, rfl⟩, _, _, [], [], rfl, rfl, ⟨rfl, rfl⟩, rfl, rfl⟩) (by simp) (by rfl)).mono ?_
  rintro e w' ⟨A, cap, us, S, rfl, hc, hb⟩
  obtain ⟨g, v, T, rfl, _, _, _, _, _, h1⟩ := hc.at (i := 0) (x := .bool true) (n := 2) (by rw [sum_one]; rfl)
  exact ⟨g, cap, by rw [sum_one]; rfl, by simpa using h1, (((Below.refl _ _).alloc (Nat.le_refl _) _).trans (hb.mono (by simp)))⟩
end Go.Proofs.Ythanmakakcmkeaa
