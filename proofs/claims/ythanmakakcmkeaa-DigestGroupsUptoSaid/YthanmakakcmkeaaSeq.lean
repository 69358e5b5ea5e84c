/- A region that draws its order, walked in the order of the text: what yields under S is taken first, the rest comes up alone; behind the last operations, which wait for all others, S is not asked. -/
import Derived.Deep.RegionHeld3
import Derived.StillTail
import Derived.WalkKit
import Derived.Below
namespace Go.Proofs.Ythanmakakcmkeaa
open Go.RowKit
section
variable {P : Program} {ops : Array Oper} {Q : Exit → Act → World → Prop} {S : World → Prop}

/-- As 'wpAnyH', S asked behind the operations before number n alone. -/
def wpAnyT (P : Program) (ops : Array Oper) (Q : Exit → Act → World → Prop) (S : World → Prop) (n : Nat) : Nat → Array Bool → Act → World → Prop
  | 0, listed, a, w => Region.ready .any ops listed = [] ∧ Q .normal a w
  | fuel + 1, listed, a, w =>
    (Region.ready .any ops listed = [] → Q .normal a w) ∧
    ∀ i ∈ Region.ready .any ops listed, wpOp P ops Q i (fun a' w' => (i < n → S w') ∧ wpAnyT P ops Q S n fuel (listed.setIfInBounds i true) a' w') a w

theorem wpAny_of_T {n : Nat} : ∀ (fuel : Nat) (listed : Array Bool) (a : Act) (w : World), wpAnyT P ops Q S n fuel listed a w → wpAny P .any ops Q fuel listed a w
  | 0, _, _, _, h => h
  | fuel + 1, _, _, _, h => ⟨h.1, fun i hi => wpOp_mono (fun a' w' h' => wpAny_of_T fuel _ a' w' h'.2) (h.2 i hi)⟩

/-- The static check of a whole region: either n is its size, or its tail from n on waits for all. -/
def tailOk (ops : Array Oper) (n : Nat) : Bool := decide (n = ops.size) || (decide (n < ops.size) && Region.sinkB .any ops n && Region.chainB .any ops n)

theorem head_lt {n i j : Nat} {listed : Array Bool} (ht : tailOk ops n = true) (inv : HeadInv .any ops n listed) (hin : i < n) (hun : listed.getD i true = false) (hj : j ∈ Region.ready .any ops listed) : j < n := by
  unfold tailOk at ht
  simp only [Bool.or_eq_true, decide_eq_true_eq, Bool.and_eq_true] at ht
  rcases ht with rfl | ⟨⟨h1, h2⟩, h3⟩
  · obtain ⟨_, o, ho, _⟩ := mem_ready.1 hj
    exact (Array.getElem?_eq_some_iff.1 ho).1
  · rcases Nat.lt_or_ge j n with h | h
    · exact h
    · exact absurd hj (tail_waits h2 h3 h1 inv _ i rfl hin hun j h)

theorem wpAnyT_first {n i : Nat} {oi : Oper} {v : Value} (ht : tailOk ops n = true) (hi : ops[i]? = some oi) (hin : i < n) (hsel : ∀ (j : Nat) (o : Oper) cs b, ops[j]? = some o → o.op ≠ .select cs b)
    (hQ : ∀ c a w, Q (.panic c) (a.put oi.dst v) w → Q (.panic c) a w) :
    ∀ (fuel : Nat) (listed : Array Bool) (a : Act) (w : World), HeadInv .any ops n listed →
      (∀ j oj, ops[j]? = some oj → j ≠ i → listed.getD j true = false → (∀ e ∈ oj.after, Region.binds .any e = true → e.on ≠ i) → oi.apart ops oj = true) →
      i ∈ Region.ready .any ops listed → YieldsIf P ops S oi v a → S w →
      wpAnyT P ops Q S n fuel (listed.setIfInBounds i true) (a.put oi.dst v) w → wpAnyT P ops Q S n (fuel + 1) listed a w := by
  intro fuel
  induction fuel with
  | zero =>
    intro listed a w inv _ hr hy hS H
    refine ⟨fun h => (by rw [h] at hr; cases hr), fun j hj => ?_⟩
    by_cases hji : j = i
    · subst hji; exact hy.wpOp hi hS ⟨fun _ => hS, H⟩
    · have := ready_mono hj hji
      rw [H.1] at this
      cases this
  | succ fuel ih =>
    intro listed a w inv hfree hr hy hS H
    refine ⟨fun h => (by rw [h] at hr; cases hr), fun j hj => ?_⟩
    by_cases hji : j = i
    · subst hji; exact hy.wpOp hi hS ⟨fun _ => hS, H⟩
    · have hjn := head_lt ht inv hin (mem_ready.1 hr).1 hj
      have h1 := H.2 j (ready_mono hj hji)
      obtain ⟨hjun, oj, hoj, hall⟩ := mem_ready.1 hj
      have hnot : ∀ e ∈ oj.after, Region.binds .any e = true → e.on ≠ i := fun e he hb heq => by
        have h1 := hall e he hb
        have h0 := (mem_ready.1 hr).1
        rw [heq] at h1
        rcases Nat.lt_or_ge i listed.size with h' | h'
        · simp [h'] at h0 h1; rw [h0] at h1; cases h1
        · simp [Array.getElem?_eq_none h'] at h1
      have h2 := wpOp_putIf hoj (hfree j oj hoj hji hjun hnot) (fun cs b => hsel i oi cs b hi) (fun cs b => hsel j oj cs b hoj) hQ hy h1
      have hfree' : ∀ k ok, ops[k]? = some ok → k ≠ i → (listed.setIfInBounds j true).getD k true = false →
          (∀ e ∈ ok.after, Region.binds .any e = true → e.on ≠ i) → oi.apart ops ok = true := fun k ok hk hki hun hno => by
        refine hfree k ok hk hki ?_ hno
        by_cases hjk : j = k
        · subst hjk; exact hjun
        · rw [getD_set_ne true hjk] at hun; exact hun
      refine wpOp_mono (fun a' w' h3 => ⟨fun _ => h3.2.1 hjn, ih (listed.setIfInBounds j true) a' w' (inv.set hj hjn) hfree' (ready_mono hr (Ne.symm hji)) h3.1 (h3.2.1 hjn) ?_⟩) h2
      rw [Array.setIfInBounds_comm _ _ hji]
      exact h3.2.2

/-- The first i of m are listed. -/
def maskTo (i m : Nat) : Array Bool := (List.replicate i true ++ List.replicate (m - i) false).toArray

theorem maskTo_set {i m : Nat} (h : i < m) : (maskTo i m).setIfInBounds i true = maskTo (i + 1) m := by
  unfold maskTo
  obtain ⟨d, rfl⟩ : ∃ d, m = i + 1 + d := ⟨m - (i + 1), by omega⟩
  rw [List.setIfInBounds_toArray, show i + 1 + d - i = d + 1 by omega, show i + 1 + d - (i + 1) = d by omega]
  congr 1
  rw [List.set_append_right _ _ (by simp), List.replicate_succ' (n := i), List.length_replicate, Nat.sub_self, List.replicate_succ (n := d)]
  simp

theorem maskTo_zero (m : Nat) : maskTo 0 m = Array.replicate m false := by simp [maskTo]

variable {l : List Oper}
/-- The region l from number i on, in the order of the text. -/
def wpSeq (P : Program) (l : List Oper) (Q : Exit → Act → World → Prop) (S : World → Prop) (n i : Nat) (rest : List Oper) (a : Act) (w : World) : Prop :=
  l.drop i = rest → tailOk l.toArray n = true → (i < n → HeadInv .any l.toArray n (maskTo i l.length)) → wpAnyT P l.toArray Q S n rest.length (maskTo i l.length) a w

/-- may number i be taken first in the text's order? -/
def seqOk (l : List Oper) (n i : Nat) : Bool := decide (i < n) && Region.noSelect l.toArray && Region.free .any l.toArray (maskTo i l.length) i && (Region.ready .any l.toArray (maskTo i l.length)).contains i

theorem drop_cons {α : Type} {l : List α} {i : Nat} {o : α} {rest : List α} (h : l.drop i = o :: rest) : l.toArray[i]? = some o ∧ i < l.length ∧ l.drop (i + 1) = rest := by
  have h1 : l[i]? = some o := by have := congrArg List.head? h; rw [List.head?_drop] at this; simpa using this
  refine ⟨by simpa using h1, (List.getElem?_eq_some_iff.1 h1).1, ?_⟩
  have := congrArg (List.drop 1) h
  simpa [List.drop_drop] using this

theorem seq_take' {n i : Nat} {o : Oper} {rest : List Oper} {v : Value} {a : Act} {w : World} (hst : seqOk l n i = true) (hQ : ∀ c a w, Q (.panic c) (a.put o.dst v) w → Q (.panic c) a w) (hy : YieldsIf P l.toArray S o v a) (hS : S w)
    (h : wpSeq P l Q S n (i + 1) rest (a.put o.dst v) w) : wpSeq P l Q S n i (o :: rest) a w := by
  intro hd ht inv
  obtain ⟨h1, h2, h3⟩ := drop_cons hd
  unfold seqOk at hst
  simp only [Bool.and_eq_true, decide_eq_true_eq] at hst
  obtain ⟨⟨⟨hin, hs⟩, hf⟩, hr⟩ := hst
  have hr' : i ∈ Region.ready .any l.toArray (maskTo i l.length) := by simpa using hr
  refine wpAnyT_first ht h1 hin (Region.noSelect_spec hs) hQ rest.length _ a w (inv hin) (Region.free_spec h1 hf) hr' hy hS ?_
  rw [maskTo_set h2]
  exact h h3 ht (fun _ => maskTo_set h2 ▸ (inv hin).set hr' hin)

theorem seq_take {n i : Nat} {o : Oper} {rest : List Oper} {v : Value} {a : Act} {w : World} (hst : seqOk l n i = true) (hw : Region.wanted o (yielded l.toArray a.tmps) = true) (hQ : ∀ c a w, Q (.panic c) (a.put o.dst v) w → Q (.panic c) a w)
    (hS : S w) (hy : ∀ w, S w → (execOp a.eval o).run P w = .ok (.value v) w)
    (h : wpSeq P l Q S n (i + 1) rest (a.put o.dst v) w) : wpSeq P l Q S n i (o :: rest) a w := seq_take' hst hQ (Or.inl ⟨hw, hy⟩) hS h
theorem seq_skip {n i : Nat} {o : Oper} {rest : List Oper} {a : Act} {w : World} (hst : seqOk l n i = true) (hw : Region.wanted o (yielded l.toArray a.tmps) = false) (hQ : ∀ c a w, Q (.panic c) (a.put o.dst undef) w → Q (.panic c) a w)
    (hS : S w) (h : wpSeq P l Q S n (i + 1) rest (a.put o.dst undef) w) : wpSeq P l Q S n i (o :: rest) a w := seq_take' hst hQ (Or.inr ⟨hw, rfl⟩) hS h

/-- the slot that a guard looks at -/
def guardSlot (l : List Oper) (g : Nat) : Option Tmp := (l.toArray[g]?).bind (·.dst)
theorem wanted_free {ops : Array Oper} {o : Oper} {a : Act} (h : o.guard = none) : Region.wanted o (yielded ops a.tmps) = true := by
  unfold Region.wanted; rw [h]
theorem wanted_slot {o : Oper} {a : Act} (g t : Nat) (b c : Bool) (h : o.guard = some (g, b)) (hs : guardSlot l g = some t) (hv : a.tmps[t]? = some (.bool c)) : Region.wanted o (yielded l.toArray a.tmps) = (c == b) := by
  unfold Region.wanted
  rw [h]
  unfold guardSlot at hs
  simp only [yielded, hs, Option.bind_some, hv]
  rfl
theorem seq_take_free {n i : Nat} {o : Oper} {rest : List Oper} {v : Value} {a : Act} {w : World} (hst : seqOk l n i = true) (hg : o.guard = none) (hQ : ∀ c a w, Q (.panic c) (a.put o.dst v) w → Q (.panic c) a w)
    (hS : S w) (hy : ∀ w, S w → (execOp a.eval o).run P w = .ok (.value v) w)
    (h : wpSeq P l Q S n (i + 1) rest (a.put o.dst v) w) : wpSeq P l Q S n i (o :: rest) a w := seq_take hst (wanted_free hg) hQ hS hy h
theorem seq_take_on {n i : Nat} {o : Oper} {rest : List Oper} {v : Value} {a : Act} {w : World} (hst : seqOk l n i = true) {g t : Nat} {b : Bool} (hg : o.guard = some (g, b)) (hs : guardSlot l g = some t) (hv : a.tmps[t]? = some (.bool b))
    (hQ : ∀ c a w, Q (.panic c) (a.put o.dst v) w → Q (.panic c) a w) (hS : S w) (hy : ∀ w, S w → (execOp a.eval o).run P w = .ok (.value v) w)
    (h : wpSeq P l Q S n (i + 1) rest (a.put o.dst v) w) : wpSeq P l Q S n i (o :: rest) a w := seq_take hst (by rw [wanted_slot g t b b hg hs hv, beq_self_eq_true]) hQ hS hy h
theorem seq_off {n i : Nat} {o : Oper} {rest : List Oper} {a : Act} {w : World} (hst : seqOk l n i = true) {g t : Nat} {b : Bool} (hg : o.guard = some (g, b)) (hs : guardSlot l g = some t) (hv : a.tmps[t]? = some (.bool (!b)))
    (hQ : ∀ c a w, Q (.panic c) (a.put o.dst undef) w → Q (.panic c) a w)
    (hS : S w) (h : wpSeq P l Q S n (i + 1) rest (a.put o.dst undef) w) : wpSeq P l Q S n i (o :: rest) a w := seq_skip hst (by rw [wanted_slot g t b (!b) hg hs hv]; cases b <;> rfl) hQ hS h

/-- may nothing but number i come up? -/
def seqSole (l : List Oper) (i : Nat) : Bool := Region.ready .any l.toArray (maskTo i l.length) == [i]

/-- An operation that comes up alone, carried out; behind it S is shown anew. -/
theorem seq_call {n i : Nat} {o : Oper} {rest : List Oper} {a : Act} {w : World} (hst : (seqSole l i && decide (i < n)) = true) (hw : Region.wanted o (yielded l.toArray a.tmps) = true)
    (h : ∀ K' : Act → World → Prop, Shut (∀ a w, S w → (S w → wpSeq P l Q S n (i + 1) rest a w) → K' a w) → Oper.wp P o a w K' Q) : wpSeq P l Q S n i (o :: rest) a w := by
  intro hd ht inv
  obtain ⟨h1, h2, h3⟩ := drop_cons hd
  simp only [Bool.and_eq_true, decide_eq_true_eq, seqSole, beq_iff_eq] at hst
  have hr' : i ∈ Region.ready .any l.toArray (maskTo i l.length) := by rw [hst.1]; simp
  refine ⟨fun h0 => (by rw [hst.1] at h0; cases h0), fun j hj => ?_⟩
  rw [hst.1] at hj
  obtain rfl := List.mem_singleton.1 hj
  unfold wpOp
  rw [h1]
  simp only [hw, if_true]
  left
  refine h _ (fun a' w' hS hh => ⟨fun _ => hS, ?_⟩)
  rw [maskTo_set h2]
  exact hh hS h3 ht (fun _ => maskTo_set h2 ▸ (inv hst.2).set hr' hst.2)
/-- .. in the tail: S is not asked. -/
theorem seq_tail {n i : Nat} {o : Oper} {rest : List Oper} {a : Act} {w : World} (hst : (seqSole l i && decide (n ≤ i)) = true) (hw : Region.wanted o (yielded l.toArray a.tmps) = true)
    (h : ∀ K' : Act → World → Prop, Shut (∀ a w, wpSeq P l Q S n (i + 1) rest a w → K' a w) → Oper.wp P o a w K' Q) : wpSeq P l Q S n i (o :: rest) a w := by
  intro hd ht inv
  obtain ⟨h1, h2, h3⟩ := drop_cons hd
  simp only [Bool.and_eq_true, decide_eq_true_eq, seqSole, beq_iff_eq] at hst
  refine ⟨fun h0 => (by rw [hst.1] at h0; cases h0), fun j hj => ?_⟩
  rw [hst.1] at hj
  obtain rfl := List.mem_singleton.1 hj
  unfold wpOp
  rw [h1]
  simp only [hw, if_true]
  left
  refine h _ (fun a' w' hh => ⟨fun hlt => absurd hlt (by omega), ?_⟩)
  rw [maskTo_set h2]
  exact hh h3 ht (fun hlt => absurd hlt (by omega))
theorem seq_tail_skip {n i : Nat} {o : Oper} {rest : List Oper} {a : Act} {w : World} (hst : (seqSole l i && decide (n ≤ i)) = true) (hw : Region.wanted o (yielded l.toArray a.tmps) = false)
    (h : wpSeq P l Q S n (i + 1) rest (a.put o.dst undef) w) : wpSeq P l Q S n i (o :: rest) a w := by
  intro hd ht inv
  obtain ⟨h1, h2, h3⟩ := drop_cons hd
  simp only [Bool.and_eq_true, decide_eq_true_eq, seqSole, beq_iff_eq] at hst
  refine ⟨fun h0 => (by rw [hst.1] at h0; cases h0), fun j hj => ?_⟩
  rw [hst.1] at hj
  obtain rfl := List.mem_singleton.1 hj
  unfold wpOp
  rw [h1]
  simp only [hw, Bool.false_eq_true, if_false]
  refine ⟨fun hlt => absurd hlt (by omega), ?_⟩
  rw [maskTo_set h2]
  exact h h3 ht (fun hlt => absurd hlt (by omega))
theorem seq_call_free {n i : Nat} {o : Oper} {rest : List Oper} {a : Act} {w : World} (hst : (seqSole l i && decide (i < n)) = true) (hg : o.guard = none)
    (h : ∀ K' : Act → World → Prop, Shut (∀ a w, S w → (S w → wpSeq P l Q S n (i + 1) rest a w) → K' a w) → Oper.wp P o a w K' Q) : wpSeq P l Q S n i (o :: rest) a w := seq_call hst (wanted_free hg) h
theorem seq_call_on {n i : Nat} {o : Oper} {rest : List Oper} {a : Act} {w : World} (hst : (seqSole l i && decide (i < n)) = true) {g t : Nat} {b : Bool} (hg : o.guard = some (g, b)) (hs : guardSlot l g = some t) (hv : a.tmps[t]? = some (.bool b))
    (h : ∀ K' : Act → World → Prop, Shut (∀ a w, S w → (S w → wpSeq P l Q S n (i + 1) rest a w) → K' a w) → Oper.wp P o a w K' Q) : wpSeq P l Q S n i (o :: rest) a w := seq_call hst (by rw [wanted_slot g t b b hg hs hv, beq_self_eq_true]) h
theorem seq_tail_free {n i : Nat} {o : Oper} {rest : List Oper} {a : Act} {w : World} (hst : (seqSole l i && decide (n ≤ i)) = true) (hg : o.guard = none)
    (h : ∀ K' : Act → World → Prop, Shut (∀ a w, wpSeq P l Q S n (i + 1) rest a w → K' a w) → Oper.wp P o a w K' Q) : wpSeq P l Q S n i (o :: rest) a w := seq_tail hst (wanted_free hg) h
theorem seq_done {n i : Nat} {a : Act} {w : World} (h : Q .normal a w) : wpSeq P l Q S n i [] a w := by
  intro hd _ _
  have hl : l.length ≤ i := List.drop_eq_nil_iff.1 hd
  refine ⟨?_, h⟩
  apply List.eq_nil_iff_forall_not_mem.2
  intro j hj
  obtain ⟨h0, o, ho, _⟩ := mem_ready.1 hj
  have hjl : j < l.length := by simpa using (Array.getElem?_eq_some_iff.1 ho).1
  unfold maskTo at h0
  rw [show l.length - i = 0 by omega] at h0
  simp [show j < i by omega] at h0

theorem head_start (l : List Oper) (n : Nat) : HeadInv .any l.toArray n (maskTo 0 l.length) := by
  rw [maskTo_zero]
  refine ⟨by simp, fun j oj hj hl => ?_, fun t ht htl => ?_⟩
  · rw [getD_replicate_false] at hl; cases hl
  · simp at htl; simp [htl]

/-- The beginning. -/
theorem region_seq {id : Nat} (n : Nat) (S : World → Prop) {a : Act} {w : World} (hm : P.follows .mixedOrders = true) (ht : tailOk l.toArray n = true) (hS : S w.drew)
    (h : S w.drew → wpSeq P l Q S n 0 l a w.drew) : (Code.region id l.toArray true).wp P Q a w := by
  refine wp_region_any hm (wpAny_of_T (S := S) (n := n) _ _ _ _ ?_)
  have := h hS rfl ht (fun _ => head_start l n)
  rw [maskTo_zero] at this
  simpa using this
end


/-- Blocks below B are as in W. -/
def Kept (B : Nat) (W w : World) : Prop := Below B W w
theorem Kept.cells {B : Nat} {W w : World} (h : Kept B W w) : (∀ b o, b < B → w.cell? ⟨b, o, none⟩ = W.cell? ⟨b, o, none⟩) ∧ (∀ b o, b < B → w.frozen? ⟨b, o, none⟩ = W.frozen? ⟨b, o, none⟩) :=
  ⟨fun b o hb => Below.cell h (p := ⟨b, o, none⟩) hb, fun b o hb => Below.frozen h (p := ⟨b, o, none⟩) hb⟩
theorem Kept.refl (w : World) : Kept w.heap.size w w.drew := ⟨rfl, rfl, rfl, Nat.le_refl _, fun _ _ => rfl⟩
theorem Kept.of {B : Nat} {w : World} (_h : B ≤ w.heap.size) : Kept B w w.drew := ⟨rfl, rfl, rfl, Nat.le_refl _, fun _ _ => rfl⟩
theorem Kept.step {B : Nat} {W w w' : World} (h : Kept B W w) (hb : Below w.heap.size w w') (hB : B ≤ W.heap.size) : Kept B W w' :=
  Below.trans h (hb.mono (Nat.le_trans hB (Below.size h)))
theorem Kept.below {B : Nat} {W w : World} (h : Kept B W w) : Below B W w := h
theorem Kept.alloc {B : Nat} {W w : World} (h : Kept B W w) (hB : B ≤ W.heap.size) (o : Obj) : Kept B W (w.alloc o) := Below.alloc h (Nat.le_trans hB (Below.size h)) o
end Go.Proofs.Ythanmakakcmkeaa
