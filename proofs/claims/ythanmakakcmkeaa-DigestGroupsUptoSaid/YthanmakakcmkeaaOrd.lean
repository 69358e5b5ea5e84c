/- A region that draws its order, walked in an order of one's own. -/
import Derived.Test.YthanmakakcmkeaaSeq
namespace Go.Proofs.Ythanmakakcmkeaa
open Go.RowKit
/-! The same in an order of one's own. -/
section
variable {P : Program} {l : List Oper} {Q : Exit → Act → World → Prop} {S : World → Prop}
def maskOf (m : Nat) (done : List Nat) : Array Bool := done.foldl (fun a i => a.setIfInBounds i true) (Array.replicate m false)
theorem maskOf_snoc (m : Nat) (done : List Nat) (i : Nat) : maskOf m (done ++ [i]) = (maskOf m done).setIfInBounds i true := by simp [maskOf]
theorem maskOf_mem : ∀ (done : List Nat) (a : Array Bool) (j : Nat), (done.foldl (fun a i => a.setIfInBounds i true) a).getD j true = false → j ∉ done ∧ a.getD j true = false
  | [], a, j, h => ⟨by simp, h⟩
  | i :: done, a, j, h => by
    obtain ⟨h1, h2⟩ := maskOf_mem done (a.setIfInBounds i true) j h
    by_cases hij : i = j
    · subst hij
      rcases Nat.lt_or_ge i a.size with h' | h'
      · simp [h'] at h2
      · simp at h2
    · rw [getD_set_ne true hij] at h2
      exact ⟨by simp [h1, Ne.symm hij], h2⟩
/-- The region l, those of 'done' behind us, in the order 'ord'. -/
def wpOrd (P : Program) (l : List Oper) (Q : Exit → Act → World → Prop) (S : World → Prop) (n : Nat) (done ord : List Nat) (a : Act) (w : World) : Prop :=
  (∀ j, j < l.length → j ∈ done ∨ j ∈ ord) → tailOk l.toArray n = true → (HeadInv .any l.toArray n (maskOf l.length done) ∨ ∃ j ∈ done, n ≤ j) → wpAnyT P l.toArray Q S n ord.length (maskOf l.length done) a w
def ordOk (l : List Oper) (n : Nat) (done : List Nat) (i : Nat) : Bool := decide (i < n) && done.all (decide <| · < n) && Region.noSelect l.toArray && Region.free .any l.toArray (maskOf l.length done) i && (Region.ready .any l.toArray (maskOf l.length done)).contains i
theorem ord_inv {n : Nat} {done : List Nat} (hlt : done.all (decide <| · < n) = true) (inv : HeadInv .any l.toArray n (maskOf l.length done) ∨ ∃ j ∈ done, n ≤ j) : HeadInv .any l.toArray n (maskOf l.length done) := by
  rcases inv with h | ⟨j, hj, hn⟩
  · exact h
  · have := List.all_eq_true.1 hlt j hj
    simp at this
    omega
theorem ord_cover {l : List Oper} {done ord : List Nat} {i : Nat} (h : ∀ j, j < l.length → j ∈ done ∨ j ∈ i :: ord) : ∀ j, j < l.length → j ∈ done ++ [i] ∨ j ∈ ord := fun j hj => by
  rcases h j hj with h | h
  · exact .inl (by simp [h])
  · rcases List.mem_cons.1 h with rfl | h
    · exact .inl (by simp)
    · exact .inr h
theorem ord_take' {n i : Nat} {done ord : List Nat} {o : Oper} {r : List Oper} {v : Value} {a : Act} {w : World} (hi : l.drop i = o :: r) (hst : ordOk l n done i = true) (hQ : ∀ c a w, Q (.panic c) (a.put o.dst v) w → Q (.panic c) a w) (hy : YieldsIf P l.toArray S o v a) (hS : S w)
    (h : wpOrd P l Q S n (done ++ [i]) ord (a.put o.dst v) w) : wpOrd P l Q S n done (i :: ord) a w := by
  intro hc ht inv
  obtain ⟨h1, h2, _⟩ := drop_cons hi
  unfold ordOk at hst
  simp only [Bool.and_eq_true, decide_eq_true_eq] at hst
  obtain ⟨⟨⟨⟨hin, hd⟩, hs⟩, hf⟩, hr⟩ := hst
  have hr' : i ∈ Region.ready .any l.toArray (maskOf l.length done) := by simpa using hr
  have inv' := ord_inv hd inv
  refine wpAnyT_first ht h1 hin (Region.noSelect_spec hs) hQ ord.length _ a w inv' (Region.free_spec h1 hf) hr' hy hS ?_
  rw [← maskOf_snoc]
  exact h (ord_cover hc) ht (.inl (maskOf_snoc l.length done i ▸ inv'.set hr' hin))
theorem ord_take_free {n i : Nat} {done ord : List Nat} {o : Oper} {r : List Oper} {v : Value} {a : Act} {w : World} (hi : l.drop i = o :: r) (hst : ordOk l n done i = true) (hg : o.guard = none) (hQ : ∀ c a w, Q (.panic c) (a.put o.dst v) w → Q (.panic c) a w)
    (hS : S w) (hy : ∀ w, S w → (execOp a.eval o).run P w = .ok (.value v) w)
    (h : wpOrd P l Q S n (done ++ [i]) ord (a.put o.dst v) w) : wpOrd P l Q S n done (i :: ord) a w := ord_take' hi hst hQ (Or.inl ⟨wanted_free hg, hy⟩) hS h
theorem ord_take_on {n i : Nat} {done ord : List Nat} {o : Oper} {r : List Oper} {v : Value} {a : Act} {w : World} (hi : l.drop i = o :: r) (hst : ordOk l n done i = true) {g t : Nat} {b : Bool} (hg : o.guard = some (g, b)) (hs : guardSlot l g = some t) (hv : a.tmps[t]? = some (.bool b)) (hQ : ∀ c a w, Q (.panic c) (a.put o.dst v) w → Q (.panic c) a w)
    (hS : S w) (hy : ∀ w, S w → (execOp a.eval o).run P w = .ok (.value v) w)
    (h : wpOrd P l Q S n (done ++ [i]) ord (a.put o.dst v) w) : wpOrd P l Q S n done (i :: ord) a w := ord_take' hi hst hQ (Or.inl ⟨by rw [wanted_slot g t b b hg hs hv, beq_self_eq_true], hy⟩) hS h
theorem ord_off {n i : Nat} {done ord : List Nat} {o : Oper} {r : List Oper} {a : Act} {w : World} (hi : l.drop i = o :: r) (hst : ordOk l n done i = true) {g t : Nat} {b : Bool} (hg : o.guard = some (g, b)) (hs : guardSlot l g = some t) (hv : a.tmps[t]? = some (.bool (!b))) (hQ : ∀ c a w, Q (.panic c) (a.put o.dst undef) w → Q (.panic c) a w)
    (hS : S w) (h : wpOrd P l Q S n (done ++ [i]) ord (a.put o.dst undef) w) : wpOrd P l Q S n done (i :: ord) a w := ord_take' hi hst hQ (Or.inr ⟨by rw [wanted_slot g t b (!b) hg hs hv]; cases b <;> rfl, rfl⟩) hS h
def ordSole (l : List Oper) (done : List Nat) (i : Nat) : Bool := Region.ready .any l.toArray (maskOf l.length done) == [i]
theorem ord_call' {n i : Nat} {done ord : List Nat} {o : Oper} {r : List Oper} {a : Act} {w : World} (hi : l.drop i = o :: r) (hst : (ordSole l done i && decide (i < n) && done.all (decide <| · < n)) = true) (hw : Region.wanted o (yielded l.toArray a.tmps) = true)
    (h : ∀ K' : Act → World → Prop, Shut (∀ a w, S w → (S w → wpOrd P l Q S n (done ++ [i]) ord a w) → K' a w) → Oper.wp P o a w K' Q) : wpOrd P l Q S n done (i :: ord) a w := by
  intro hc ht inv
  obtain ⟨h1, h2, _⟩ := drop_cons hi
  simp only [Bool.and_eq_true, decide_eq_true_eq, ordSole, beq_iff_eq] at hst
  obtain ⟨⟨hsole, hin⟩, hd⟩ := hst
  have hr' : i ∈ Region.ready .any l.toArray (maskOf l.length done) := by rw [hsole]; simp
  have inv' := ord_inv hd inv
  refine ⟨fun h0 => (by rw [hsole] at h0; cases h0), fun j hj => ?_⟩
  rw [hsole] at hj
  obtain rfl := List.mem_singleton.1 hj
  unfold wpOp
  rw [h1]
  simp only [hw, if_true]
  left
  refine h _ (fun a' w' hS hh => ⟨fun _ => hS, ?_⟩)
  rw [← maskOf_snoc]
  exact hh hS (ord_cover hc) ht (.inl (maskOf_snoc l.length done j ▸ inv'.set hr' hin))
theorem ord_call_free {n i : Nat} {done ord : List Nat} {o : Oper} {r : List Oper} {a : Act} {w : World} (hi : l.drop i = o :: r) (hst : (ordSole l done i && decide (i < n) && done.all (decide <| · < n)) = true) (hg : o.guard = none)
    (h : ∀ K' : Act → World → Prop, Shut (∀ a w, S w → (S w → wpOrd P l Q S n (done ++ [i]) ord a w) → K' a w) → Oper.wp P o a w K' Q) : wpOrd P l Q S n done (i :: ord) a w := ord_call' hi hst (wanted_free hg) h
theorem ord_call_on {n i : Nat} {done ord : List Nat} {o : Oper} {r : List Oper} {a : Act} {w : World} (hi : l.drop i = o :: r) (hst : (ordSole l done i && decide (i < n) && done.all (decide <| · < n)) = true) {g t : Nat} {b : Bool} (hg : o.guard = some (g, b)) (hs : guardSlot l g = some t) (hv : a.tmps[t]? = some (.bool b))
    (h : ∀ K' : Act → World → Prop, Shut (∀ a w, S w → (S w → wpOrd P l Q S n (done ++ [i]) ord a w) → K' a w) → Oper.wp P o a w K' Q) : wpOrd P l Q S n done (i :: ord) a w := ord_call' hi hst (by rw [wanted_slot g t b b hg hs hv, beq_self_eq_true]) h
theorem ord_tail_free {n i : Nat} {done ord : List Nat} {o : Oper} {r : List Oper} {a : Act} {w : World} (hi : l.drop i = o :: r) (hst : (ordSole l done i && decide (n ≤ i)) = true) (hg : o.guard = none)
    (h : ∀ K' : Act → World → Prop, Shut (∀ a w, wpOrd P l Q S n (done ++ [i]) ord a w → K' a w) → Oper.wp P o a w K' Q) : wpOrd P l Q S n done (i :: ord) a w := by
  intro hc ht inv
  obtain ⟨h1, h2, _⟩ := drop_cons hi
  simp only [Bool.and_eq_true, decide_eq_true_eq, ordSole, beq_iff_eq] at hst
  refine ⟨fun h0 => (by rw [hst.1] at h0; cases h0), fun j hj => ?_⟩
  rw [hst.1] at hj
  obtain rfl := List.mem_singleton.1 hj
  unfold wpOp
  rw [h1]
  simp only [wanted_free hg, if_true]
  left
  refine h _ (fun a' w' hh => ⟨fun hlt => absurd hlt (by omega), ?_⟩)
  rw [← maskOf_snoc]
  exact hh (ord_cover hc) ht (.inr ⟨j, by simp, hst.2⟩)
theorem ord_done {n : Nat} {done : List Nat} {a : Act} {w : World} (h : Q .normal a w) : wpOrd P l Q S n done [] a w := by
  intro hc _ _
  refine ⟨?_, h⟩
  apply List.eq_nil_iff_forall_not_mem.2
  intro j hj
  obtain ⟨h0, o, ho, _⟩ := mem_ready.1 hj
  have hjl : j < l.length := by simpa using (Array.getElem?_eq_some_iff.1 ho).1
  have := (maskOf_mem done _ j h0).1
  rcases hc j hjl with h | h
  · exact this h
  · cases h
theorem region_ord {id : Nat} (n : Nat) (ord : List Nat) (S : World → Prop) {a : Act} {w : World} (hm : P.follows .mixedOrders = true) (ht : tailOk l.toArray n = true) (hall : (decide (ord.length = l.length) && (List.range l.length).all (ord.contains ·)) = true) (hS : S w.drew)
    (h : S w.drew → wpOrd P l Q S n [] ord a w.drew) : (Code.region id l.toArray true).wp P Q a w := by
  refine wp_region_any hm (wpAny_of_T (S := S) (n := n) _ _ _ _ ?_)
  simp only [Bool.and_eq_true, decide_eq_true_eq] at hall
  have h0 : maskOf l.length [] = maskTo 0 l.length := by rw [maskTo_zero]; rfl
  have := h hS (fun j hj => .inr (by have := List.all_eq_true.1 hall.2 j (List.mem_range.2 hj); simpa using this)) ht (.inl (h0 ▸ head_start l n))
  rw [h0, maskTo_zero, hall.1] at this
  simpa using this
end

end Go.Proofs.Ythanmakakcmkeaa
