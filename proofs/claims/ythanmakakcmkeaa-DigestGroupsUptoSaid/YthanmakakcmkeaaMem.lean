/- Words for memory, of no program: a slice that reads as a list of cells, a row of the call's own, blocks that stay. -/
import Derived.WalkKit
import Derived.ProofKit
import Derived.OpenShut
import Derived.Below
import Derived.Laws.OwnMore
import Derived.Deep.AppendLies
import Derived.Deep.Draws
import Derived.Maps.AppendAt
import Derived.RegionTactic
import Derived.OwnWalk
import Derived.Lib.Hide
namespace Go.Proofs.Ythanmakakcmkeaa
open Go.RowKit

theorem addr_add (b off n : Nat) : (⟨b, off, none⟩ : Addr).add n = ⟨b, off + n, none⟩ := by
  unfold Addr.add; split <;> simp_all

theorem block_lt {w : World} {b off : Nat} {v : Value} (h : w.cell? ⟨b, off, none⟩ = some v) : b < w.heap.size := World.block_lt_of_cell? w ⟨b, off, none⟩ h

/-- The slice '.slice A n _' holds the cells xs ('size' cells an element), in a block below B. -/
def Rd (w : World) (B size : Nat) (A : Option Addr) (n : Nat) (xs : List Value) : Prop :=
  xs.length = n * size ∧ (0 < n → ∃ b off, A = some ⟨b, off, none⟩ ∧ b < B ∧ ∀ j, j < n * size → w.cell? ⟨b, off + j, none⟩ = xs[j]?)

theorem Rd.nil {w : World} {B size : Nat} {A : Option Addr} : Rd w B size A 0 [] := ⟨by simp, fun h => absurd h (by omega)⟩

theorem Rd.keep {w w' : World} {B size n : Nat} {A : Option Addr} {xs : List Value} (h : Rd w B size A n xs) (hk : ∀ b off, b < B → w'.cell? ⟨b, off, none⟩ = w.cell? ⟨b, off, none⟩) : Rd w' B size A n xs :=
  ⟨h.1, fun hn => let ⟨b, off, e, hb, hc⟩ := h.2 hn; ⟨b, off, e, hb, fun j hj => (hk b _ hb).trans (hc j hj)⟩⟩

theorem Rd.below {w w' : World} {B C size n : Nat} {A : Option Addr} {xs : List Value} (h : Rd w B size A n xs) (hb : Below C w w') (hC : B ≤ C) : Rd w' B size A n xs :=
  h.keep fun b off hlt => hb.cell (p := ⟨b, off, none⟩) (show b < C by omega)

theorem Rd.more {w : World} {B B' size n : Nat} {A : Option Addr} {xs : List Value} (h : Rd w B size A n xs) (hB : B ≤ B') : Rd w B' size A n xs :=
  ⟨h.1, fun hn => let ⟨b, off, e, hb, hc⟩ := h.2 hn; ⟨b, off, e, by omega, hc⟩⟩

/-- A row of the call's own, at the head of block g. -/
def Row (w : World) (e size g cap n : Nat) (xs : List Value) : Prop :=
  xs.length = n * size ∧ n ≤ cap ∧ cap ≤ maxLen ∧ ∃ cur, w.heap[g]? = some (.cells cur e (0, 0)) ∧ cur.size = cap * size ∧ cur.toList.take (n * size) = xs

theorem Row.lt {w : World} {e size g cap n : Nat} {xs : List Value} (h : Row w e size g cap n xs) : g < w.heap.size := by
  obtain ⟨_, _, _, cur, hg, _⟩ := h
  exact (Array.getElem?_eq_some_iff.1 hg).1

theorem Row.own {w : World} {e size g cap n : Nat} {xs : List Value} (h : Row w e size g cap n xs) (base : Nat) (hb : base ≤ g) : w.ownsRow base e size (.slice (some ⟨g, 0, none⟩) n cap) n xs := by
  obtain ⟨h1, h2, h3, cur, h4, h5, h6⟩ := h
  exact ⟨h1, .inr ⟨g, cap, cur, rfl, hb, h4, h2, h3, h5, h6⟩⟩

theorem Row.of_own {w : World} {e size g cap n base : Nat} {xs : List Value} (h : w.ownsRow base e size (.slice (some ⟨g, 0, none⟩) n cap) n xs) : Row w e size g cap n xs := by
  obtain ⟨h1, h2⟩ := h
  rcases h2 with ⟨h2, _⟩ | ⟨g', cap', cur, he, hb, h4, h5, h6, h7, h8⟩
  · cases h2
  · simp only [Value.slice.injEq, Option.some.injEq, Addr.mk.injEq, true_and, and_true] at he
    obtain ⟨rfl, rfl⟩ := he
    exact ⟨h1, h5, h6, cur, h4, h7, h8⟩

theorem Row.cell {w : World} {e size g cap n : Nat} {xs : List Value} (h : Row w e size g cap n xs) (j : Nat) (hj : j < n * size) : w.cell? ⟨g, j, none⟩ = xs[j]? := by
  obtain ⟨_, _, _, cur, hg, _, rfl⟩ := h
  rw [cell_of_row w g j cur e (0, 0) hg, List.getElem?_take, if_pos hj]
  simp

theorem Row.free {w : World} {e size g cap n : Nat} {xs : List Value} (h : Row w e size g cap n xs) (j : Nat) : w.frozen? ⟨g, j, none⟩ = false := by
  obtain ⟨_, _, _, cur, hg, _⟩ := h
  simp [World.frozen?, hg]

theorem Row.rd {w : World} {e size g cap n : Nat} {xs : List Value} (h : Row w e size g cap n xs) (B : Nat) (hB : g < B) : Rd w B size (some ⟨g, 0, none⟩) n xs :=
  ⟨h.1, fun _ => ⟨g, 0, rfl, hB, fun j hj => by rw [Nat.zero_add]; exact h.cell j hj⟩⟩

theorem Row.same {w w' : World} {e size g cap n : Nat} {xs : List Value} (h : Row w e size g cap n xs) (hg : w'.heap[g]? = w.heap[g]?) : Row w' e size g cap n xs := by
  obtain ⟨h1, h2, h3, cur, h4, h5⟩ := h
  exact ⟨h1, h2, h3, cur, hg.trans h4, h5⟩

theorem Row.made (w : World) (e size : Nat) (cur : Array Value) (cap : Nat) (hm : cap ≤ maxLen) (hs : cur.size = cap * size) : Row (w.alloc (.cells cur e)) e size w.heap.size cap 0 [] :=
  ⟨by simp, Nat.zero_le _, hm, cur, heap_alloc_new w _, hs, by simp⟩

/-- A block that is known whole. -/
def Blk (w : World) (g : Nat) (t : TypeId) (cs : Array Value) : Prop := w.heap[g]? = some (.cells cs t (0, 0))

theorem Blk.lt {w : World} {g : Nat} {t : TypeId} {cs : Array Value} (h : Blk w g t cs) : g < w.heap.size := (Array.getElem?_eq_some_iff.1 h).1
theorem Blk.cell {w : World} {g : Nat} {t : TypeId} {cs : Array Value} (h : Blk w g t cs) (i : Nat) : w.cell? ⟨g, i, none⟩ = cs[i]? := cell_of_row w g i cs t (0, 0) h
theorem Blk.free {w : World} {g : Nat} {t : TypeId} {cs : Array Value} (h : Blk w g t cs) (i : Nat) : w.frozen? ⟨g, i, none⟩ = false := by
  unfold Blk at h
  simp [World.frozen?, h]
theorem Blk.same {w w' : World} {g : Nat} {t : TypeId} {cs : Array Value} (h : Blk w g t cs) (hg : w'.heap[g]? = w.heap[g]?) : Blk w' g t cs := hg.trans h
theorem Blk.new (w : World) (t : TypeId) (cs : Array Value) : Blk (w.alloc (.cells cs t)) w.heap.size t cs := heap_alloc_new w _
theorem Blk.set {w : World} {g : Nat} {t : TypeId} {cs : Array Value} (h : Blk w g t cs) (i : Nat) (u : Value) : Blk (w.setCell ⟨g, i, none⟩ u) g t (cs.setIfInBounds i u) := by
  unfold Blk at h ⊢
  simp [World.setCell, Array.getElem?_modify, h]

/-- From w to w' only blocks of S (and what is new) may have turned. -/
structure Fr (S : List Nat) (w w' : World) : Prop where
  os : w'.os = w.os
  tape : w'.tape = w.tape
  output : w'.output = w.output
  size : w.heap.size ≤ w'.heap.size
  block : ∀ k, k < w.heap.size → k ∉ S → w'.heap[k]? = w.heap[k]?

theorem Fr.refl (S : List Nat) (w : World) : Fr S w w := ⟨rfl, rfl, rfl, Nat.le_refl _, fun _ _ _ => rfl⟩
theorem Fr.trans {S : List Nat} {a b c : World} (h : Fr S a b) (k : Fr S b c) : Fr S a c :=
  ⟨k.os.trans h.os, k.tape.trans h.tape, k.output.trans h.output, Nat.le_trans h.size k.size, fun i hi hS => (k.block i (Nat.lt_of_lt_of_le hi h.size) hS).trans (h.block i hi hS)⟩
theorem Fr.mono {S T : List Nat} {a b : World} (h : Fr S a b) (hST : ∀ k, k ∈ S → k ∈ T ∨ a.heap.size ≤ k) : Fr T a b :=
  ⟨h.os, h.tape, h.output, h.size, fun i hi hT => h.block i hi (fun hS => by rcases hST i hS with h | h; exact hT h; omega)⟩
theorem Fr.of_below {a b : World} (h : Below a.heap.size a b) (S : List Nat) : Fr S a b := ⟨h.os, h.tape, h.output, h.size, fun i hi _ => h.block i hi⟩
theorem Fr.below {S : List Nat} {a b : World} (h : Fr S a b) (B : Nat) (hB : B ≤ a.heap.size) (hS : ∀ k, k ∈ S → B ≤ k) : Below B a b :=
  ⟨h.os, h.tape, h.output, h.size, fun i hi => h.block i (by omega) (fun hm => by have := hS i hm; omega)⟩
theorem Fr.drew {S : List Nat} {a b : World} (h : Fr S a b) : Fr S a b.drew := ⟨h.os, h.tape, h.output, h.size, h.block⟩
theorem Fr.drewN {S : List Nat} {a b : World} (h : Fr S a b) (n : Nat) : Fr S a (b.drewN n) := ⟨h.os, h.tape, h.output, h.size, h.block⟩
theorem Fr.alloc {S : List Nat} {a b : World} (h : Fr S a b) (o : Obj) : Fr S a (b.alloc o) :=
  h.trans (Fr.of_below ((Below.refl _ _).alloc (Nat.le_refl _) o) S)
theorem Fr.set {S : List Nat} {a b : World} (h : Fr S a b) {p : Addr} (hp : p.block ∈ S ∨ a.heap.size ≤ p.block) (u : Value) : Fr S a (b.setCell p u) :=
  ⟨h.os, h.tape, h.output, by simpa [World.setCell] using h.size, fun i hi hS => (Below.heap_setCell b p u i (by rintro rfl; rcases hp with hp | hp; exact hS hp; omega)).trans (h.block i hi hS)⟩
theorem Fr.grown {S : List Nat} {a b c : World} {row : Option Nat} (h : Fr S a b) (hg : b.grownBy c row) (hr : ∀ k, row = some k → k ∈ S ∨ a.heap.size ≤ k) : Fr S a c :=
  ⟨hg.os.trans h.os, hg.tape.trans h.tape, hg.output.trans h.output, Nat.le_trans h.size hg.size, fun i hi hS => (hg.block i (Nat.lt_of_lt_of_le hi h.size) (fun e => by rcases hr i e.symm with h1 | h1; exact hS h1; omega)).trans (h.block i hi hS)⟩

section
variable {P : Program}
/-- 'append(out, x..)' onto a row of the call's own, the new elements in a block that is known whole. -/
theorem wp_push {o : Oper} {a : Act} {w : World} {K : Act → World → Prop} {Q : Exit → Act → World → Prop} (s x : Operand) (t : TypeId)
    (ho : o.op = .call { callee := .builtin .append, args := #[s, x], argTypes := #[t, t] })
    (e : TypeId) (z : Value) (size bytes : Nat) (ht : P.underlying t = some (.slice e)) (hi : (P.info? e).map (fun i => (i.zero, i.size, i.bytes)) = some (some z, size, bytes))
    (hzs : z.cells.size = size) (hsz : 0 < size)
    (g cap n : Nat) (xs : List Value) (hs : a.eval s = .slice (some ⟨g, 0, none⟩) n cap) (hown : Row w e size g cap n xs)
    (b m c : Nat) (news : Array Value) (hx : a.eval x = .slice (some ⟨b, 0, none⟩) m c) (hl : news.size = m * size) (hnews : Blk w b e news) (h1 : ∀ u ∈ news.toList, u.oneCell' = true)
    (hm : 0 < m) (h63 : n + m ≤ maxLen) (hbytes : (n + m) * bytes ≤ 140737488355328)
    (h : ∀ g' cap' w', Row w' e size g' cap' (n + m) (xs ++ news.toList) → Fr [g] w w' → (g' = g ∨ w.heap.size ≤ g') → K (a.put o.dst (.slice (some ⟨g', 0, none⟩) (n + m) cap')) w') : o.wp P a w K Q := by
  obtain ⟨i, hi0, hz, hsize, hby⟩ := info_parts hi
  refine wp_append_lies w s x t ho 0 e i z size bytes ht hi0 hz hsize hby hzs hsz _ n xs hs (hown.own 0 (Nat.zero_le _)) ⟨b, 0, none⟩ m c news.toList hx (by simpa using hl) (World.news_of_block hnews) h1 hm h63 hbytes (Nat.zero_le _) _ rfl ?_
  intro g' cap' w' h2 h3 h4 _
  refine h g' cap' w' (Row.of_own h2) ⟨h3.os, h3.tape, h3.output, h3.size, fun k hk hS => h3.block k hk (fun e => hS (by simp [Value.ownBlock] at e; simp [e]))⟩ ?_
  rcases h4 with h4 | h4
  · left; simp [Value.ownBlock] at h4; exact h4.symm
  · right; omega

theorem wpList_push {ops : Array Oper} {rest : List Oper} {o : Oper} {a : Act} {w : World} {Q : Exit → Act → World → Prop} (hgd : o.guard = none) (s x : Operand) (t : TypeId)
    (ho : o.op = .call { callee := .builtin .append, args := #[s, x], argTypes := #[t, t] })
    (e : TypeId) (z : Value) (size bytes : Nat) (ht : P.underlying t = some (.slice e)) (hi : (P.info? e).map (fun i => (i.zero, i.size, i.bytes)) = some (some z, size, bytes))
    (hzs : z.cells.size = size) (hsz : 0 < size)
    (g cap n : Nat) (xs : List Value) (hs : a.eval s = .slice (some ⟨g, 0, none⟩) n cap) (hown : Row w e size g cap n xs)
    (b m c : Nat) (news : Array Value) (hx : a.eval x = .slice (some ⟨b, 0, none⟩) m c) (hl : news.size = m * size) (hnews : Blk w b e news) (h1 : ∀ u ∈ news.toList, u.oneCell' = true)
    (hm : 0 < m) (h63 : n + m ≤ maxLen) (hbytes : (n + m) * bytes ≤ 140737488355328)
    (h : ∀ g' cap' w', Row w' e size g' cap' (n + m) (xs ++ news.toList) → Fr [g] w w' → (g' = g ∨ w.heap.size ≤ g') → wpList P ops Q rest (a.put o.dst (.slice (some ⟨g', 0, none⟩) (n + m) cap')) w') : wpList P ops Q (o :: rest) a w :=
  wpList_plain hgd fun _ hK => wp_push s x t ho e z size bytes ht hi hzs hsz g cap n xs hs hown b m c news hx hl hnews h1 hm h63 hbytes fun g' cap' w' h2 h3 h4 => hK _ _ (h g' cap' w' h2 h3 h4)

theorem step_push {ops : Array Oper} {o : Oper} {a : Act} {w : World} {K : Act → World → Prop} {Q : Exit → Act → World → Prop} {E : Prop} (hgd : o.guard = none) (s x : Operand) (t : TypeId)
    (ho : o.op = .call { callee := .builtin .append, args := #[s, x], argTypes := #[t, t] })
    (e : TypeId) (z : Value) (size bytes : Nat) (ht : P.underlying t = some (.slice e)) (hi : (P.info? e).map (fun i => (i.zero, i.size, i.bytes)) = some (some z, size, bytes))
    (hzs : z.cells.size = size) (hsz : 0 < size)
    (g cap n : Nat) (xs : List Value) (hs : a.eval s = .slice (some ⟨g, 0, none⟩) n cap) (hown : Row w e size g cap n xs)
    (b m c : Nat) (news : Array Value) (hx : a.eval x = .slice (some ⟨b, 0, none⟩) m c) (hl : news.size = m * size) (hnews : Blk w b e news) (h1 : ∀ u ∈ news.toList, u.oneCell' = true)
    (hm : 0 < m) (h63 : n + m ≤ maxLen) (hbytes : (n + m) * bytes ≤ 140737488355328)
    (h : ∀ g' cap' w', Row w' e size g' cap' (n + m) (xs ++ news.toList) → Fr [g] w w' → (g' = g ∨ w.heap.size ≤ g') → K (a.put o.dst (.slice (some ⟨g', 0, none⟩) (n + m) cap')) w') :
    if Region.wanted o (yielded ops a.tmps) = true then Oper.wp P o a w K Q else E := by
  have hw : Region.wanted o (yielded ops a.tmps) = true := by simp [Region.wanted, hgd]
  rw [if_pos hw]
  exact wp_push s x t ho e z size bytes ht hi hzs hsz g cap n xs hs hown b m c news hx hl hnews h1 hm h63 hbytes h
end

section
variable {P : Program}
theorem run_push_nil {w : World} (t ty e : TypeId) (i : TypeInfo) (ht : P.underlying t = some (.slice e)) (hi : P.info? e = some i) (g cap n c : Nat) (hn : n ≤ cap) :
    (Builtin.append_ #[t, t] ty #[.slice (some ⟨g, 0, none⟩) n cap, .slice none 0 c]).run P w = .ok (.slice (some ⟨g, 0, none⟩) n cap) w := by
  simp [Builtin.append_, run_underlying ht, sizeOf, typeInfo, hi, Builtin.lenOf, Builtin.firstCells, hn, storeCells]

/-- 'append(out, xs...)' onto a row of the call's own, whatever the source. -/
theorem run_pushes {w : World} (t ty e : TypeId) (z : Value) (size bytes : Nat) (ht : P.underlying t = some (.slice e)) (hi : (P.info? e).map (fun i => (i.zero, i.size, i.bytes)) = some (some z, size, bytes))
    (hzs : z.cells.size = size) (hsz : 0 < size) (g cap n : Nat) (xs : List Value) (hown : Row w e size g cap n xs)
    (B : Nat) (A : Option Addr) (m c : Nat) (news : List Value) (hr : Rd w B size A m news) (h1 : ∀ u ∈ news, u.oneCell' = true) (h63 : n + m ≤ maxLen) (hbytes : (n + m) * bytes ≤ 140737488355328) :
    ∃ g' cap' w', (Builtin.append_ #[t, t] ty #[.slice (some ⟨g, 0, none⟩) n cap, .slice A m c]).run P w = .ok (.slice (some ⟨g', 0, none⟩) (n + m) cap') w' ∧ Row w' e size g' cap' (n + m) (xs ++ news) ∧ Fr [g] w w' ∧ (g' = g ∨ w.heap.size ≤ g') := by
  obtain ⟨i, hi0, hz, hsize, hby⟩ := info_parts hi
  rcases A with _ | ad
  · have hm : m = 0 := by
      rcases Nat.eq_zero_or_pos m with h0 | h0
      · exact h0
      · obtain ⟨_, _, h, _⟩ := hr.2 h0; cases h
    subst hm
    have hn : news = [] := List.eq_nil_of_length_eq_zero (by simpa using hr.1)
    subst hn
    exact ⟨g, cap, w, run_push_nil t ty e i ht hi0 g cap n c hown.2.1, by simpa using hown, Fr.refl _ _, .inl rfl⟩
  · have hcells : ∀ j u, news[j]? = some u → w.cell? (ad.add j) = some u := by
      intro j u hu
      have hj : j < news.length := (List.getElem?_eq_some_iff.1 hu).1
      have hm : 0 < m := by
        rcases Nat.eq_zero_or_pos m with h0 | h0
        · subst h0; have := hr.1; omega
        · exact h0
      obtain ⟨b, off, h, _, hc⟩ := hr.2 hm
      injection h with h
      subst h
      rw [addr_add, hc j (by have := hr.1; omega)]
      exact hu
    obtain ⟨v', w', hrun, h2, h3, h4, h5⟩ := run_append_own_at (P := P) w 0 t ty e i z size bytes ht hi0 hz hsize hby hzs hsz _ n xs (hown.own 0 (Nat.zero_le _)) ad m c news hr.1 hcells h1 h63 hbytes (Nat.zero_le _)
    have hform : ∃ g' cap', v' = .slice (some ⟨g', 0, none⟩) (n + m) cap' := by
      rcases h2.2 with ⟨rfl, _⟩ | ⟨g', cap', cur, hv, _⟩
      · have := (h4.1 rfl).1; cases this
      · exact ⟨g', cap', hv⟩
    obtain ⟨g', cap', rfl⟩ := hform
    refine ⟨g', cap', w', hrun, Row.of_own h2, ⟨h3.os, h3.tape, h3.output, h3.size, fun k hk hS => h3.block k hk (fun e => hS (by simp [Value.ownBlock] at e; simp [e]))⟩, ?_⟩
    rcases h5 with h5 | h5
    · left; simpa [Value.ownBlock] using h5
    · right; simp [Value.ownBlock] at h5; omega

theorem wp_pushes {o : Oper} {a : Act} {w : World} {K : Act → World → Prop} {Q : Exit → Act → World → Prop} (s x : Operand) (t : TypeId)
    (ho : o.op = .call { callee := .builtin .append, args := #[s, x], argTypes := #[t, t] })
    (e : TypeId) (z : Value) (size bytes : Nat) (ht : P.underlying t = some (.slice e)) (hi : (P.info? e).map (fun i => (i.zero, i.size, i.bytes)) = some (some z, size, bytes))
    (hzs : z.cells.size = size) (hsz : 0 < size) (g cap n : Nat) (xs : List Value) (hs : a.eval s = .slice (some ⟨g, 0, none⟩) n cap) (hown : Row w e size g cap n xs)
    (B : Nat) (A : Option Addr) (m c : Nat) (news : List Value) (hx : a.eval x = .slice A m c) (hr : Rd w B size A m news) (h1 : ∀ u ∈ news, u.oneCell' = true) (h63 : n + m ≤ maxLen) (hbytes : (n + m) * bytes ≤ 140737488355328)
    (h : ∀ g' cap' w', Row w' e size g' cap' (n + m) (xs ++ news) → Fr [g] w w' → (g' = g ∨ w.heap.size ≤ g') → K (a.put o.dst (.slice (some ⟨g', 0, none⟩) (n + m) cap')) w') : o.wp P a w K Q := by
  obtain ⟨g', cap', w', hrun, h2, h3, h4⟩ := run_pushes (P := P) t o.type e z size bytes ht hi hzs hsz g cap n xs hown B A m c news hr h1 h63 hbytes
  unfold Oper.wp execOp
  simp only [ho, resolve, invoke, builtin, Sem.run_bind, Sem.run_pure, Result.andThen_ok, List.map_toArray, List.map_cons, List.map_nil, hs, hx, hrun]
  exact h g' cap' w' h2 h3 h4

theorem wpList_pushes {ops : Array Oper} {rest : List Oper} {o : Oper} {a : Act} {w : World} {Q : Exit → Act → World → Prop} (hgd : o.guard = none) (s x : Operand) (t : TypeId)
    (ho : o.op = .call { callee := .builtin .append, args := #[s, x], argTypes := #[t, t] })
    (e : TypeId) (z : Value) (size bytes : Nat) (ht : P.underlying t = some (.slice e)) (hi : (P.info? e).map (fun i => (i.zero, i.size, i.bytes)) = some (some z, size, bytes))
    (hzs : z.cells.size = size) (hsz : 0 < size) (g cap n : Nat) (xs : List Value) (hs : a.eval s = .slice (some ⟨g, 0, none⟩) n cap) (hown : Row w e size g cap n xs)
    (B : Nat) (A : Option Addr) (m c : Nat) (news : List Value) (hx : a.eval x = .slice A m c) (hr : Rd w B size A m news) (h1 : ∀ u ∈ news, u.oneCell' = true) (h63 : n + m ≤ maxLen) (hbytes : (n + m) * bytes ≤ 140737488355328)
    (h : ∀ g' cap' w', Row w' e size g' cap' (n + m) (xs ++ news) → Fr [g] w w' → (g' = g ∨ w.heap.size ≤ g') → wpList P ops Q rest (a.put o.dst (.slice (some ⟨g', 0, none⟩) (n + m) cap')) w') : wpList P ops Q (o :: rest) a w :=
  wpList_plain hgd fun _ hK => wp_pushes s x t ho e z size bytes ht hi hzs hsz g cap n xs hs hown B A m c news hx hr h1 h63 hbytes fun g' cap' w' h2 h3 h4 => hK _ _ (h g' cap' w' h2 h3 h4)
end

theorem Fr.cell {S : List Nat} {w w' : World} (h : Fr S w w') {b off : Nat} {v : Value} (hc : w.cell? ⟨b, off, none⟩ = some v) (hS : b ∉ S) : w'.cell? ⟨b, off, none⟩ = some v :=
  (World.cell?_of_block (a := ⟨b, off, none⟩) (h.block b (block_lt hc) hS)).trans hc
theorem cell_below {w w' : World} (h : Below w.heap.size w w') {b off : Nat} {v : Value} (hc : w.cell? ⟨b, off, none⟩ = some v) : w'.cell? ⟨b, off, none⟩ = some v :=
  (World.cell?_of_block (a := ⟨b, off, none⟩) (h.block b (block_lt hc))).trans hc
theorem cell_alloc {w : World} (o : Obj) {b off : Nat} {v : Value} (hc : w.cell? ⟨b, off, none⟩ = some v) : (w.alloc o).cell? ⟨b, off, none⟩ = some v :=
  cell_below ((Below.refl _ _).alloc (Nat.le_refl _) o) hc
theorem Row.below {w w' : World} {e size g cap n : Nat} {xs : List Value} (h : Row w e size g cap n xs) (hb : Below w.heap.size w w') : Row w' e size g cap n xs := h.same (hb.block g h.lt)
theorem Row.fr {w w' : World} {e size g cap n : Nat} {xs : List Value} {S : List Nat} (h : Row w e size g cap n xs) (hf : Fr S w w') (hS : g ∉ S) : Row w' e size g cap n xs := h.same (hf.block g h.lt hS)
theorem Row.alloc {w : World} {e size g cap n : Nat} {xs : List Value} (h : Row w e size g cap n xs) (o : Obj) : Row (w.alloc o) e size g cap n xs := h.below ((Below.refl _ _).alloc (Nat.le_refl _) o)
theorem Row.drew {w : World} {e size g cap n : Nat} {xs : List Value} (h : Row w e size g cap n xs) : Row w.drew e size g cap n xs := h
theorem Blk.below {w w' : World} {g : Nat} {t : TypeId} {cs : Array Value} (h : Blk w g t cs) (hb : Below w.heap.size w w') : Blk w' g t cs := h.same (hb.block g h.lt)
theorem Blk.fr {w w' : World} {g : Nat} {t : TypeId} {cs : Array Value} {S : List Nat} (h : Blk w g t cs) (hf : Fr S w w') (hS : g ∉ S) : Blk w' g t cs := h.same (hf.block g h.lt hS)
theorem Blk.alloc {w : World} {g : Nat} {t : TypeId} {cs : Array Value} (h : Blk w g t cs) (o : Obj) : Blk (w.alloc o) g t cs := h.below ((Below.refl _ _).alloc (Nat.le_refl _) o)
theorem below_undrew {B : Nat} {a w : World} (h : Below B a.drew w) : Below B a w := ⟨h.os, h.tape, h.output, h.size, h.block⟩
theorem below_undrewN {B : Nat} {a w : World} {n : Nat} (h : Below B (a.drewN n) w) : Below B a w := ⟨h.os, h.tape, h.output, h.size, h.block⟩
theorem below_drewN {B : Nat} {a w : World} (h : Below B a w) (n : Nat) : Below B a (w.drewN n) := ⟨h.os, h.tape, h.output, h.size, h.block⟩
end Go.Proofs.Ythanmakakcmkeaa
