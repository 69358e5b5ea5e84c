/- Copies into rows of the call's own, at whatever size of element. -/
import Derived.Test.YthanmakakcmkeaaSpoil2
import Derived.Lib.AppendZerosOnto
import Derived.Lib.Overlaps
import Derived.Laws.IdiomCopy
namespace Go.Proofs.Ythanmakakcmkeaa
open Go.RowKit

/-- l with cs laid over it from o on -/
def setMany : List Value → Nat → List Value → List Value
  | l, _, [] => l
  | l, o, v :: r => setMany (l.set o v) (o + 1) r
theorem setMany_length : ∀ (cs l : List Value) (o : Nat), (setMany l o cs).length = l.length
  | [], _, _ => rfl
  | v :: r, l, o => by rw [setMany, setMany_length r]; simp
theorem setMany_eq : ∀ (cs l : List Value) (o : Nat), o + cs.length ≤ l.length → setMany l o cs = l.take o ++ cs ++ l.drop (o + cs.length)
  | [], l, o, _ => by simp [setMany]
  | v :: r, l, o, h => by
    simp only [List.length_cons] at h
    rw [setMany, setMany_eq r _ _ (by simp; omega), List.take_set, List.drop_set_of_lt (by omega), List.take_succ_eq_append_getElem (by omega), List.set_append_right _ _ (by simp; omega)]
    simp [show min o l.length = o by omega, show o + 1 + r.length = o + (r.length + 1) by omega]
theorem Row.setCells {e size g cap n : Nat} : ∀ (cs : List Value) {w : World} {xs : List Value} (o : Nat), Row w e size g cap n xs → Row (w.setCells g o cs) e size g cap n (setMany xs o cs)
  | [], _, _, _, h => h
  | v :: r, _, _, o, h => by rw [World.setCells, setMany]; exact Row.setCells r (o + 1) (h.set o v)
theorem fr_setCells {g : Nat} : ∀ (cs : List Value) (w : World) (o : Nat), Fr [g] w (w.setCells g o cs)
  | [], w, _ => Fr.refl _ _
  | v :: r, w, o => by rw [World.setCells]; exact ((Fr.refl _ _).set (.inl (by simp)) _).trans (fr_setCells r _ (o + 1))
/-- a row's spare elements, taken in -/
theorem Row.extend {w : World} {e size g cap n : Nat} {xs : List Value} (h : Row w e size g cap n xs) (hc : n + 1 ≤ cap) : ∃ js, js.length = size ∧ Row w e size g cap (n + 1) (xs ++ js) := by
  obtain ⟨h1, h2, h3, cur, h4, h5, rfl⟩ := h
  refine ⟨(cur.toList.drop (n * size)).take size, ?_, ?_, hc, h3, cur, h4, h5, ?_⟩
  · have : (n + 1) * size ≤ cap * size := Nat.mul_le_mul_right _ hc
    rw [Nat.add_mul, Nat.one_mul] at this
    simp; omega
  · have : (n + 1) * size ≤ cap * size := Nat.mul_le_mul_right _ hc
    rw [Nat.add_mul, Nat.one_mul] at this ⊢
    simp; omega
  · rw [Nat.add_mul, Nat.one_mul, List.take_add]
section
variable {P : Program}
theorem run_copy_sized (w : World) (dT sT ty elem : TypeId) (size b o dLen dCap : Nat) (a : Addr) (sLen sCap k : Nat) (cs : List Value)
    (hu : P.underlying dT = some (.slice elem)) (hs : (P.info? elem).map (·.size) = some size) (hk : Nat.min sLen dLen = k) (hn : cs.length = k * size)
    (hsrc : ∀ j v, cs[j]? = some v → w.cell? (a.add j) = some v) (hc : ∀ j, j < cs.length → (w.cell? ⟨b, o + j, none⟩).isSome = true) (hf : ∀ j, j < cs.length → w.frozen? ⟨b, o + j, none⟩ = false) (h1 : ∀ v ∈ cs, v.oneCell' = true) :
    (Builtin.copy_ #[dT, sT] ty #[.slice (some ⟨b, o, none⟩) dLen dCap, .slice (some a) sLen sCap]).run P w = .ok (goInt k) (w.setCells b o cs) := by
  have hl := run_loadCells_list (P := P) w a cs hsrc
  have hst := run_storeCells_cells (P := P) b o cs 0 w (by simpa using hc) (by simpa using hf) h1
  cases hq : P.info? elem with
  | none => simp [hq] at hs
  | some i =>
    have hi : i.size = size := by simpa [hq] using hs
    have hl' : (loadCells a (k * size)).run P w = .ok cs.toArray w := by rw [← hn]; exact hl
    have hk' : Nat.min sLen dLen = k := hk
    simp [Builtin.copy_, run_underlying hu, Builtin.lenOf, Builtin.firstCells, sizeOf, typeInfo, hq, hi, hk', hl', hst]
theorem wp_copy_row {o : Oper} {a : Act} {w : World} {K : Act → World → Prop} {Q : Exit → Act → World → Prop} (d s : Operand) (dT sT : TypeId)
    (ho : o.op = .call { callee := .builtin .copy, args := #[d, s], argTypes := #[dT, sT] }) (e size : Nat) (hu : P.underlying dT = some (.slice e)) (hsz : (P.info? e).map (·.size) = some size)
    (g cap n : Nat) (xs : List Value) (hrow : Row w e size g cap n xs) (off dLen dCap : Nat) (ad : Addr) (sLen sCap k : Nat) (cs : List Value)
    (hd : a.eval d = .slice (some ⟨g, off, none⟩) dLen dCap) (hs : a.eval s = .slice (some ad) sLen sCap) (hk : Nat.min sLen dLen = k) (hn : cs.length = k * size) (hfit : off + cs.length ≤ n * size)
    (hsrc : ∀ j v, cs[j]? = some v → w.cell? (ad.add j) = some v) (h1 : ∀ v ∈ cs, v.oneCell' = true)
    (h : ∀ w', Row w' e size g cap n (setMany xs off cs) → Fr [g] w w' → K (a.put o.dst (goInt k)) w') : o.wp P a w K Q := by
  have hr := run_copy_sized (P := P) w dT sT o.type e size g off dLen dCap ad sLen sCap k cs hu hsz hk hn hsrc (fun j hj => by rw [hrow.cell _ (by omega), List.getElem?_eq_getElem (by rw [hrow.1]; omega)]; rfl) (fun j hj => hrow.free _) h1
  unfold Oper.wp execOp
  simp only [ho, resolve, invoke, builtin, Sem.run_bind, Sem.run_pure, Result.andThen_ok, List.map_toArray, List.map_cons, List.map_nil, hd, hs, hr]
  exact h _ (Row.setCells cs off hrow) (fr_setCells cs w off)
theorem wpList_copy_row {ops : Array Oper} {rest : List Oper} {o : Oper} {a : Act} {w : World} {Q : Exit → Act → World → Prop} (hgd : o.guard = none) (d s : Operand) (dT sT : TypeId)
    (ho : o.op = .call { callee := .builtin .copy, args := #[d, s], argTypes := #[dT, sT] }) (e size : Nat) (hu : P.underlying dT = some (.slice e)) (hsz : (P.info? e).map (·.size) = some size)
    (g cap n : Nat) (xs : List Value) (hrow : Row w e size g cap n xs) (off dLen dCap : Nat) (ad : Addr) (sLen sCap k : Nat) (cs : List Value)
    (hd : a.eval d = .slice (some ⟨g, off, none⟩) dLen dCap) (hs : a.eval s = .slice (some ad) sLen sCap) (hk : Nat.min sLen dLen = k) (hn : cs.length = k * size) (hfit : off + cs.length ≤ n * size)
    (hsrc : ∀ j v, cs[j]? = some v → w.cell? (ad.add j) = some v) (h1 : ∀ v ∈ cs, v.oneCell' = true)
    (h : ∀ w', Row w' e size g cap n (setMany xs off cs) → Fr [g] w w' → wpList P ops Q rest (a.put o.dst (goInt k)) w') : wpList P ops Q (o :: rest) a w :=
  wpList_plain hgd fun _ hK => wp_copy_row d s dT sT ho e size hu hsz g cap n xs hrow off dLen dCap ad sLen sCap k cs hd hs hk hn hfit hsrc h1 fun w' h2 h3 => hK _ _ (h w' h2 h3)

/-- 'append(s[:i], make(S, k)...)' where there is no room: a new row. -/
theorem wpList_zeros_grow {ops : Array Oper} {rest : List Oper} {o : Oper} {a : Act} {w : World} {Q : Exit → Act → World → Prop} (hgd : o.guard = none) (s x : Operand) (t tn : TypeId)
    (ho : o.op = .call { callee := .builtin .append, args := #[s, x], argTypes := #[t, tn] }) (e : TypeId) (z : Value) (size bytes : Nat) (ht : P.underlying t = some (.slice e)) (htn : P.underlying tn = some (.int .i64)) (hi : (P.info? e).map (fun i => (i.zero, i.size, i.bytes)) = some (some z, size, bytes))
    (hzs : z.cells.size = size) (hsz : 0 < size)
    (g cap n : Nat) (xs : List Value) (hrow : Row w e size g cap n xs) (i k m : Nat) (K : Int) (hm : i + k = m) (hK : K = (k : Int)) (hin : i ≤ n) (hs : a.eval s = .slice (some ⟨g, 0, none⟩) i cap) (hx : a.eval x = .int .i64 K) (hk : 0 < k) (hno : cap < i + k) (h63 : i + k ≤ maxLen) (hbytes : (i + k) * bytes ≤ 140737488355328)
    (h : ∀ cap' zs w', zs.length = k * size → Row w' e size w.heap.size cap' m (xs.take (i * size) ++ zs) → Below w.heap.size w w' → wpList P ops Q rest (a.put o.dst (.slice (some ⟨w.heap.size, 0, none⟩) m cap')) w') : wpList P ops Q (o :: rest) a w := by
  subst hm hK
  obtain ⟨inf, hi0, hz, hsize, hby⟩ := info_parts hi
  have hil : i * size ≤ n * size := Nat.mul_le_mul_right _ hin
  have hxl := hrow.1
  have hold : (Builtin.firstCells inf.size i (.slice (some ⟨g, 0, none⟩) i cap)).run P w.drew = .ok (xs.take (i * size)).toArray w.drew := by
    rw [hsize]
    exact run_firstCells_some w.drew size i ⟨g, 0, none⟩ i cap (xs.take (i * size)) (by rw [List.length_take]; omega) (fun j v hj => by
      rw [List.getElem?_take] at hj
      split at hj
      · rw [addr_add, Nat.zero_add]; exact (hrow.cell j (by omega)).trans hj
      · cases hj)
  unfold maxLen at h63
  have hrun := Lib.run_append_grow_zeros (P := P) w t tn o.type e inf _ .i64 .i64 ht htn hi0 hz (some ⟨g, 0, none⟩) i cap (xs.take (i * size)) hold k (by omega) (by omega) (by omega) (by omega) (by rw [hby]; have : k * bytes ≤ (i + k) * bytes := Nat.mul_le_mul_right _ (by omega); omega) (by rw [hby]; exact growslice_fits hno hbytes)
  refine Lib.wpList_append_run w hgd s x t tn ho _ _ hs hx _ _ hrun ?_
  have hge := grownCap_ge w (i + k) cap e
  have hle := grownCap_le_maxLen w (i + k) cap e (by unfold maxLen; omega)
  have hzl : ∀ m, (Builtin.zeroCells z.cells m).size = m * size := fun m => by simp [Builtin.zeroCells, hzs]
  refine h _ (Builtin.zeroCells z.cells k).toList _ (by simp [hzl]) ⟨?_, hge, hle, _, heap_alloc_new w.drew _, ?_, ?_⟩ ((Below.refl _ _).drew.alloc (Nat.le_refl _) _)
  · simp only [List.length_append, List.length_take, Array.length_toList, hzl]
    rw [Nat.add_mul]; omega
  · simp only [Array.size_append, List.size_toArray, List.length_take, hzl]
    rw [show min (i * size) xs.length = i * size by omega, ← Nat.add_mul, ← Nat.add_mul]
    congr 1; omega
  · rw [Array.toList_append, Array.toList_append, List.take_left' (by simp only [List.length_append, Array.length_toList, List.length_take, hzl]; rw [Nat.add_mul]; omega)]
end
end Go.Proofs.Ythanmakakcmkeaa
