/- Words for terms in new memory. -/
import Derived.Test.YthanmakakcmkeaaPlain0
namespace Go.Proofs.Ythanmakakcmkeaa
open Go.RowKit

/-- a slice that reads as cells in a block of which G speaks -/
def RdG (w : World) (G : Nat → Prop) (size : Nat) (A : Option Addr) (n : Nat) (xs : List Value) : Prop :=
  xs.length = n * size ∧ (0 < n → ∃ b off, A = some ⟨b, off, none⟩ ∧ G b ∧ ∀ j, j < n * size → w.cell? ⟨b, off + j, none⟩ = xs[j]?)
theorem RdG.nil {w : World} {G : Nat → Prop} {size : Nat} {A : Option Addr} : RdG w G size A 0 [] := ⟨by simp, fun h => absurd h (by omega)⟩
theorem RdG.toRd {w : World} {G : Nat → Prop} {size n B : Nat} {A : Option Addr} {xs : List Value} (h : RdG w G size A n xs) (hG : ∀ b, G b → b < B) : Rd w B size A n xs :=
  ⟨h.1, fun hn => let ⟨b, off, e, hb, hc⟩ := h.2 hn; ⟨b, off, e, hG b hb, hc⟩⟩
theorem RdG.keep {w w' : World} {G G' : Nat → Prop} {size n : Nat} {A : Option Addr} {xs : List Value} (h : RdG w G size A n xs) (hk : ∀ b, G b → G' b ∧ ∀ off, w'.cell? ⟨b, off, none⟩ = w.cell? ⟨b, off, none⟩) : RdG w' G' size A n xs :=
  ⟨h.1, fun hn => let ⟨b, off, e, hb, hc⟩ := h.2 hn; ⟨b, off, e, (hk b hb).1, fun j hj => ((hk b hb).2 _).trans (hc j hj)⟩⟩
theorem Row.rdG {w : World} {e size g cap n : Nat} {xs : List Value} (h : Row w e size g cap n xs) {G : Nat → Prop} (hG : G g) : RdG w G size (some ⟨g, 0, none⟩) n xs :=
  ⟨h.1, fun _ => ⟨g, 0, rfl, hG, fun j hj => by rw [Nat.zero_add]; exact h.cell j hj⟩⟩

mutual
/-- 'TmAt', in blocks of which G speaks -/
def TmG (w : World) (G : Nat → Prop) : Tm → List Value → Prop
  | .mk k b i f s bs r l ns vs c v, cs => ∃ A5 c5 A7 c7 A8 c8, cs = [.int .i64 k, .bool b, .int .i64 i, .float .f64 f, .string s, .slice A5 bs.length c5, .int .u64 r, .slice A7 l.length c7, .slice A8 vs.length c8, .string c, .int .i64 v] ∧
      RdG w G 1 A5 bs.length (bs.map u8v) ∧ (∃ rows, RdG w G 11 A7 l.length rows.flatten ∧ TmsG w G l rows) ∧ ns.length = vs.length ∧ (∃ rows, RdG w G 12 A8 vs.length (entRows ns rows) ∧ TmsG w G vs rows) ∧
      (s.size ≤ 1048576 ∧ bs.length ≤ 1048576 ∧ l.length ≤ 1048576 ∧ vs.length ≤ 1048576 ∧ c.size ≤ 1048576 ∧ (∀ n ∈ ns, n.size ≤ 1048576)) ∧
      ((Lit.int .i64 k).wf = true ∧ (Lit.int .i64 i).wf = true ∧ (Lit.float .f64 f).wf = true ∧ (Lit.int .u64 r).wf = true ∧ (Lit.int .i64 v).wf = true)
def TmsG (w : World) (G : Nat → Prop) : List Tm → List (List Value) → Prop
  | [], rows => rows = []
  | t :: ts, rows => ∃ r rs, rows = r :: rs ∧ TmG w G t r ∧ TmsG w G ts rs
end
mutual
theorem TmG.toAt {w : World} {G : Nat → Prop} {B : Nat} (hG : ∀ b, G b → b < B) : ∀ (t : Tm) {cs : List Value}, TmG w G t cs → TmAt w B t cs := by
  intro t cs h
  cases t with
  | mk k b i f s bs r l ns vs c v =>
    simp only [TmG] at h
    simp only [TmAt]
    obtain ⟨A5, c5, A7, c7, A8, c8, e, h5, ⟨rows, h7, h7'⟩, hn, ⟨rows8, h8, h8'⟩, hb, hw⟩ := h
    exact ⟨A5, c5, A7, c7, A8, c8, e, h5.toRd hG, ⟨rows, h7.toRd hG, TmsG.toAt hG l h7'⟩, hn, ⟨rows8, h8.toRd hG, TmsG.toAt hG vs h8'⟩, hb, hw⟩
theorem TmsG.toAt {w : World} {G : Nat → Prop} {B : Nat} (hG : ∀ b, G b → b < B) : ∀ (ts : List Tm) {rows : List (List Value)}, TmsG w G ts rows → TmsAt w B ts rows := by
  intro ts rows h
  cases ts with
  | nil => simpa only [TmsG, TmsAt] using h
  | cons t ts =>
    simp only [TmsG] at h
    simp only [TmsAt]
    obtain ⟨r, rs, e, h1, h2⟩ := h
    exact ⟨r, rs, e, TmG.toAt hG t h1, TmsG.toAt hG ts h2⟩
end
mutual
theorem TmG.keep {w w' : World} {G G' : Nat → Prop} (hk : ∀ b, G b → G' b ∧ ∀ off, w'.cell? ⟨b, off, none⟩ = w.cell? ⟨b, off, none⟩) : ∀ (t : Tm) {cs : List Value}, TmG w G t cs → TmG w' G' t cs := by
  intro t cs h
  cases t with
  | mk k b i f s bs r l ns vs c v =>
    simp only [TmG] at h ⊢
    obtain ⟨A5, c5, A7, c7, A8, c8, e, h5, ⟨rows, h7, h7'⟩, hn, ⟨rows8, h8, h8'⟩, hb, hw⟩ := h
    exact ⟨A5, c5, A7, c7, A8, c8, e, h5.keep hk, ⟨rows, h7.keep hk, TmsG.keep hk l h7'⟩, hn, ⟨rows8, h8.keep hk, TmsG.keep hk vs h8'⟩, hb, hw⟩
theorem TmsG.keep {w w' : World} {G G' : Nat → Prop} (hk : ∀ b, G b → G' b ∧ ∀ off, w'.cell? ⟨b, off, none⟩ = w.cell? ⟨b, off, none⟩) : ∀ (ts : List Tm) {rows : List (List Value)}, TmsG w G ts rows → TmsG w' G' ts rows := by
  intro ts rows h
  cases ts with
  | nil => simpa only [TmsG] using h
  | cons t ts =>
    simp only [TmsG] at h ⊢
    obtain ⟨r, rs, e, h1, h2⟩ := h
    exact ⟨r, rs, e, TmG.keep hk t h1, TmsG.keep hk ts h2⟩
end
theorem TmsG.snoc {w : World} {G : Nat → Prop} {t : Tm} {cs : List Value} (ht : TmG w G t cs) : ∀ (ts : List Tm) {rows : List (List Value)}, TmsG w G ts rows → TmsG w G (ts ++ [t]) (rows ++ [cs])
  | [], rows, h => by
    obtain rfl : rows = [] := by simpa only [TmsG] using h
    simp only [List.nil_append, TmsG]
    exact ⟨cs, [], rfl, ht, rfl⟩
  | u :: ts, rows, h => by
    simp only [TmsG] at h
    obtain ⟨r, rs, rfl, h1, h2⟩ := h
    simp only [List.cons_append, TmsG]
    exact ⟨r, rs ++ [cs], rfl, h1, TmsG.snoc ht ts h2⟩
theorem TmsG.len {w : World} {G : Nat → Prop} : ∀ (ts : List Tm) {rows : List (List Value)}, TmsG w G ts rows → rows.length = ts.length
  | [], rows, h => by obtain rfl : rows = [] := by simpa only [TmsG] using h
                      rfl
  | u :: ts, rows, h => by
    simp only [TmsG] at h
    obtain ⟨r, rs, rfl, h1, h2⟩ := h
    simp [TmsG.len ts h2]

def zcs : Array Value := #[.int .i64 0, .bool false, .int .i64 0, .float .f64 0, .string ByteArray.empty, .slice none 0 0, .int .u64 0, .slice none 0 0, .slice none 0 0, .string ByteArray.empty, .int .i64 0]
/-- a new term -/
def NewT (w : World) (t : Tm) (e : Ending) (w' : World) : Prop := ∃ q0 q1 q2 q3 q4 q5 q6 q7 q8 q9 q10, e = .returned (.agg #[q0, q1, q2, q3, q4, q5, q6, q7, q8, q9, q10]) ∧
  TmG w' (fun b => w.heap.size ≤ b ∧ b < w'.heap.size) t [q0, q1, q2, q3, q4, q5, q6, q7, q8, q9, q10] ∧ Below w.heap.size w w'

theorem tm_size : (Try.prog.info? 31).map (·.size) = some 11 := by kernel_rfl
def PlainAt (x : V) : Prop := ∀ (v : Value) (S : List Nat) (w : World) (d : Int), VAt w x v S → 0 ≤ d → d ≤ 401 → Calls Try.prog 47 #[v, .int .i64 d] w (NewT w (plainT x d))

theorem run_store_float {P : Program} (w : World) (a : Addr) (k : FloatKind) (f : Nat) (m : Mode) : (store a (.float k f) m).run P w = stored P w a (.float k f) m := run_store P w a _ m rfl

theorem tmg_leaf (w : World) (G : Nat → Prop) (k : Int) (b : Bool) (i : Int) (f : Nat) (s : ByteArray) (r : Int) (hs : s.size ≤ 1048576) (h1 : (Lit.int .i64 k).wf = true) (h2 : (Lit.int .i64 i).wf = true) (h3 : (Lit.float .f64 f).wf = true) (h4 : (Lit.int .u64 r).wf = true) :
    TmG w G (.mk k b i f s [] r [] [] [] ByteArray.empty 0) [.int .i64 k, .bool b, .int .i64 i, .float .f64 f, .string s, .slice none 0 0, .int .u64 r, .slice none 0 0, .slice none 0 0, .string ByteArray.empty, .int .i64 0] := by
  simp only [TmG]
  exact ⟨none, 0, none, 0, none, 0, rfl, RdG.nil, ⟨[], RdG.nil, by simp [TmsG]⟩, rfl, ⟨[], RdG.nil, by simp [TmsG]⟩, ⟨hs, by simp, by simp, by simp, by decide, by simp⟩, h1, h2, h3, h4, by decide⟩


theorem Blk.set11 {w : World} {g : Nat} {t : TypeId} {x0 x1 x2 x3 x4 x5 x6 x7 x8 x9 x10 : Value} (h : Blk w g t #[x0, x1, x2, x3, x4, x5, x6, x7, x8, x9, x10]) (y0 y1 y2 y3 y4 y5 y6 y7 y8 y9 y10 : Value) : Blk (((((((((((w.setCell ⟨g, 0, none⟩ y0).setCell ⟨g, 1, none⟩ y1).setCell ⟨g, 2, none⟩ y2).setCell ⟨g, 3, none⟩ y3).setCell ⟨g, 4, none⟩ y4).setCell ⟨g, 5, none⟩ y5).setCell ⟨g, 6, none⟩ y6).setCell ⟨g, 7, none⟩ y7).setCell ⟨g, 8, none⟩ y8).setCell ⟨g, 9, none⟩ y9).setCell ⟨g, 10, none⟩ y10) g t #[y0, y1, y2, y3, y4, y5, y6, y7, y8, y9, y10] := by
  simpa using (((((((((((h.set 0 y0).set 1 y1).set 2 y2).set 3 y3).set 4 y4).set 5 y5).set 6 y6).set 7 y7).set 8 y8).set 9 y9).set 10 y10)
theorem fr_set11 {S : List Nat} {a w : World} (h : Fr S a w) {g : Nat} (hp : g ∈ S) (y0 y1 y2 y3 y4 y5 y6 y7 y8 y9 y10 : Value) : Fr S a (((((((((((w.setCell ⟨g, 0, none⟩ y0).setCell ⟨g, 1, none⟩ y1).setCell ⟨g, 2, none⟩ y2).setCell ⟨g, 3, none⟩ y3).setCell ⟨g, 4, none⟩ y4).setCell ⟨g, 5, none⟩ y5).setCell ⟨g, 6, none⟩ y6).setCell ⟨g, 7, none⟩ y7).setCell ⟨g, 8, none⟩ y8).setCell ⟨g, 9, none⟩ y9).setCell ⟨g, 10, none⟩ y10) :=
  (((((((((((h.set (.inl hp) y0).set (.inl hp) y1).set (.inl hp) y2).set (.inl hp) y3).set (.inl hp) y4).set (.inl hp) y5).set (.inl hp) y6).set (.inl hp) y7).set (.inl hp) y8).set (.inl hp) y9).set (.inl hp) y10)
theorem Blk.cells11 {w : World} {g : Nat} {t : TypeId} {x0 x1 x2 x3 x4 x5 x6 x7 x8 x9 x10 : Value} (h : Blk w g t #[x0, x1, x2, x3, x4, x5, x6, x7, x8, x9, x10]) : w.cell? ⟨g, 0, none⟩ = some x0 ∧ w.cell? ⟨g, 1, none⟩ = some x1 ∧ w.cell? ⟨g, 2, none⟩ = some x2 ∧ w.cell? ⟨g, 3, none⟩ = some x3 ∧ w.cell? ⟨g, 4, none⟩ = some x4 ∧ w.cell? ⟨g, 5, none⟩ = some x5 ∧ w.cell? ⟨g, 6, none⟩ = some x6 ∧ w.cell? ⟨g, 7, none⟩ = some x7 ∧ w.cell? ⟨g, 8, none⟩ = some x8 ∧ w.cell? ⟨g, 9, none⟩ = some x9 ∧ w.cell? ⟨g, 10, none⟩ = some x10 := ⟨h.cell 0, h.cell 1, h.cell 2, h.cell 3, h.cell 4, h.cell 5, h.cell 6, h.cell 7, h.cell 8, h.cell 9, h.cell 10⟩
theorem Blk.frees11 {w : World} {g : Nat} {t : TypeId} {cs : Array Value} (h : Blk w g t cs) : w.frozen? ⟨g, 0, none⟩ = false ∧ w.frozen? ⟨g, 1, none⟩ = false ∧ w.frozen? ⟨g, 2, none⟩ = false ∧ w.frozen? ⟨g, 3, none⟩ = false ∧ w.frozen? ⟨g, 4, none⟩ = false ∧ w.frozen? ⟨g, 5, none⟩ = false ∧ w.frozen? ⟨g, 6, none⟩ = false ∧ w.frozen? ⟨g, 7, none⟩ = false ∧ w.frozen? ⟨g, 8, none⟩ = false ∧ w.frozen? ⟨g, 9, none⟩ = false ∧ w.frozen? ⟨g, 10, none⟩ = false := ⟨h.free 0, h.free 1, h.free 2, h.free 3, h.free 4, h.free 5, h.free 6, h.free 7, h.free 8, h.free 9, h.free 10⟩

/-- a row of the call's own, or nil -/
def RowN (w : World) (e size : Nat) (A : Option Addr) (cap n : Nat) (xs : List Value) : Prop := (A = none ∧ cap = 0 ∧ n = 0 ∧ xs = []) ∨ ∃ g, A = some ⟨g, 0, none⟩ ∧ Row w e size g cap n xs
def ownL : Option Addr → List Nat
  | none => []
  | some a => [a.block]
theorem RowN.own {w : World} {e size cap n : Nat} {A : Option Addr} {xs : List Value} (h : RowN w e size A cap n xs) : w.ownsRow 0 e size (.slice A n cap) n xs := by
  rcases h with ⟨rfl, rfl, rfl, rfl⟩ | ⟨g, rfl, h⟩
  · exact ⟨by simp, .inl ⟨rfl, rfl⟩⟩
  · exact h.own 0 (Nat.zero_le _)
theorem RowN.lt {w : World} {e size cap n : Nat} {A : Option Addr} {xs : List Value} (h : RowN w e size A cap n xs) : ∀ b ∈ ownL A, b < w.heap.size := by
  rcases h with ⟨rfl, _⟩ | ⟨g, rfl, h⟩
  · intro b hb; cases hb
  · intro b hb; simp [ownL] at hb; subst hb; exact h.lt
theorem RowN.same {w w' : World} {e size cap n : Nat} {A : Option Addr} {xs : List Value} (h : RowN w e size A cap n xs) (hs : ∀ b ∈ ownL A, w'.heap[b]? = w.heap[b]?) : RowN w' e size A cap n xs := by
  rcases h with h | ⟨g, rfl, h⟩
  · exact .inl h
  · exact .inr ⟨g, rfl, h.same (hs g (by simp [ownL]))⟩
theorem RowN.below {w w' : World} {e size cap n : Nat} {A : Option Addr} {xs : List Value} (h : RowN w e size A cap n xs) (hb : Below w.heap.size w w') : RowN w' e size A cap n xs := h.same fun b hm => hb.block b (h.lt b hm)
theorem RowN.fr {w w' : World} {e size cap n : Nat} {A : Option Addr} {xs : List Value} {T : List Nat} (h : RowN w e size A cap n xs) (hf : Fr T w w') (hd : ∀ b ∈ ownL A, b ∉ T) : RowN w' e size A cap n xs := h.same fun b hm => hf.block b (h.lt b hm) (hd b hm)
theorem RowN.alloc {w : World} {e size cap n : Nat} {A : Option Addr} {xs : List Value} (h : RowN w e size A cap n xs) (o : Obj) : RowN (w.alloc o) e size A cap n xs := h.below ((Below.refl _ _).alloc (Nat.le_refl _) o)
theorem Row.toN {w : World} {e size g cap n : Nat} {xs : List Value} (h : Row w e size g cap n xs) : RowN w e size (some ⟨g, 0, none⟩) cap n xs := .inr ⟨g, rfl, h⟩

section
variable {P : Program}
/-- 'append(out, x..)' onto a row of the call's own or nil, the new elements in a block that is known whole. -/
theorem wp_pushN {o : Oper} {a : Act} {w : World} {K : Act → World → Prop} {Q : Exit → Act → World → Prop} (s x : Operand) (t : TypeId)
    (ho : o.op = .call { callee := .builtin .append, args := #[s, x], argTypes := #[t, t] })
    (e : TypeId) (z : Value) (size bytes : Nat) (ht : P.underlying t = some (.slice e)) (hi : (P.info? e).map (fun i => (i.zero, i.size, i.bytes)) = some (some z, size, bytes))
    (hzs : z.cells.size = size) (hsz : 0 < size)
    (A : Option Addr) (cap n : Nat) (xs : List Value) (hs : a.eval s = .slice A n cap) (hown : RowN w e size A cap n xs)
    (b m c : Nat) (news : Array Value) (hx : a.eval x = .slice (some ⟨b, 0, none⟩) m c) (hl : news.size = m * size) (hnews : Blk w b e news) (h1 : ∀ u ∈ news.toList, u.oneCell' = true)
    (hm : 0 < m) (h63 : n + m ≤ maxLen) (hbytes : (n + m) * bytes ≤ 140737488355328)
    (h : ∀ g' cap' w', Row w' e size g' cap' (n + m) (xs ++ news.toList) → Fr (ownL A) w w' → (g' ∈ ownL A ∨ w.heap.size ≤ g') → K (a.put o.dst (.slice (some ⟨g', 0, none⟩) (n + m) cap')) w') : o.wp P a w K Q := by
  obtain ⟨i, hi0, hz, hsize, hby⟩ := info_parts hi
  refine wp_append_lies w s x t ho 0 e i z size bytes ht hi0 hz hsize hby hzs hsz _ n xs hs hown.own ⟨b, 0, none⟩ m c news.toList hx (by simpa using hl) (World.news_of_block hnews) h1 hm h63 hbytes (Nat.zero_le _) _ rfl ?_
  intro g' cap' w' h2 h3 h4 _
  refine h g' cap' w' (Row.of_own h2) ⟨h3.os, h3.tape, h3.output, h3.size, fun k hk hS => h3.block k hk (fun e => hS (by cases A <;> simp [Value.ownBlock, ownL] at e ⊢; exact e))⟩ ?_
  rcases h4 with h4 | h4
  · left; cases A <;> simp [Value.ownBlock, ownL] at h4 ⊢; exact h4.symm
  · right; omega
theorem wpList_pushN {ops : Array Oper} {rest : List Oper} {o : Oper} {a : Act} {w : World} {Q : Exit → Act → World → Prop} (hgd : o.guard = none) (s x : Operand) (t : TypeId)
    (ho : o.op = .call { callee := .builtin .append, args := #[s, x], argTypes := #[t, t] })
    (e : TypeId) (z : Value) (size bytes : Nat) (ht : P.underlying t = some (.slice e)) (hi : (P.info? e).map (fun i => (i.zero, i.size, i.bytes)) = some (some z, size, bytes))
    (hzs : z.cells.size = size) (hsz : 0 < size)
    (A : Option Addr) (cap n : Nat) (xs : List Value) (hs : a.eval s = .slice A n cap) (hown : RowN w e size A cap n xs)
    (b m c : Nat) (news : Array Value) (hx : a.eval x = .slice (some ⟨b, 0, none⟩) m c) (hl : news.size = m * size) (hnews : Blk w b e news) (h1 : ∀ u ∈ news.toList, u.oneCell' = true)
    (hm : 0 < m) (h63 : n + m ≤ maxLen) (hbytes : (n + m) * bytes ≤ 140737488355328)
    (h : ∀ g' cap' w', Row w' e size g' cap' (n + m) (xs ++ news.toList) → Fr (ownL A) w w' → (g' ∈ ownL A ∨ w.heap.size ≤ g') → wpList P ops Q rest (a.put o.dst (.slice (some ⟨g', 0, none⟩) (n + m) cap')) w') : wpList P ops Q (o :: rest) a w :=
  wpList_plain hgd fun _ hK => wp_pushN s x t ho e z size bytes ht hi hzs hsz A cap n xs hs hown b m c news hx hl hnews h1 hm h63 hbytes fun g' cap' w' h2 h3 h4 => hK _ _ (h g' cap' w' h2 h3 h4)

theorem setRow_fr (w : World) (g : Nat) (cs : Array Value) : Fr [g] w (w.setRow g cs) := by
  refine ⟨rfl, rfl, rfl, by simp [World.setRow], fun k _ hk => ?_⟩
  simp only [World.setRow, Array.getElem?_modify]
  rw [if_neg (fun e => hk (by simp [e]))]
/-- A whole struct is laid over a block. -/
theorem wp_store_blk {o : Oper} {a : Act} {w : World} {K : Act → World → Prop} {Q : Exit → Act → World → Prop} (x y : Operand) (ty : TypeId) (ho : o.op = .store ty x y)
    (g : Nat) (cells : Array Value) (hx : a.eval x = .pointer (some ⟨g, 0, none⟩)) (hy : a.eval y = .agg cells) (t : TypeId) (old : Array Value) (hg : Blk w g t old)
    (hi : (P.info? ty).map (·.size) = some cells.size) (hold : old.size = cells.size) (h1 : cells.all (·.oneCell') = true)
    (h : ∀ w', Blk w' g t cells → Fr [g] w w' → K (a.put o.dst undef) w') : o.wp P a w K Q := by
  unfold Oper.wp execOp
  simp only [ho, hx, hy, Instr.storeAt, Instr.sureAddr, Sem.run_bind, Sem.run_pure, Result.andThen_ok, run_storeVar_row w g t ty old cells hg hi hold h1]
  exact h _ (setRow_heap w g old cells t (0, 0) hg) (setRow_fr w g cells)
theorem wpList_store_blk {ops : Array Oper} {rest : List Oper} {o : Oper} {a : Act} {w : World} {Q : Exit → Act → World → Prop} (hgd : o.guard = none) (x y : Operand) (ty : TypeId) (ho : o.op = .store ty x y)
    (g : Nat) (cells : Array Value) (hx : a.eval x = .pointer (some ⟨g, 0, none⟩)) (hy : a.eval y = .agg cells) (t : TypeId) (old : Array Value) (hg : Blk w g t old)
    (hi : (P.info? ty).map (·.size) = some cells.size) (hold : old.size = cells.size) (h1 : cells.all (·.oneCell') = true)
    (h : ∀ w', Blk w' g t cells → Fr [g] w w' → wpList P ops Q rest (a.put o.dst undef) w') : wpList P ops Q (o :: rest) a w :=
  wpList_plain hgd fun _ hK => wp_store_blk x y ty ho g cells hx hy t old hg hi hold h1 fun w' h2 h3 => hK _ _ (h w' h2 h3)
end

theorem tmg_bytes (w : World) (G : Nat → Prop) (l : List UInt8) (A : Option Addr) (c : Nat) (h : RdG w G 1 A l.length (l.map u8v)) (hl : l.length ≤ 1048576) :
    TmG w G (.mk 6 false 0 0 ByteArray.empty l 0 [] [] [] ByteArray.empty 0) [.int .i64 6, .bool false, .int .i64 0, .float .f64 0, .string ByteArray.empty, .slice A l.length c, .int .u64 0, .slice none 0 0, .slice none 0 0, .string ByteArray.empty, .int .i64 0] := by
  simp only [TmG]
  exact ⟨A, c, none, 0, none, 0, rfl, h, ⟨[], RdG.nil, by simp [TmsG]⟩, rfl, ⟨[], RdG.nil, by simp [TmsG]⟩, ⟨by decide, hl, by simp, by simp, by decide, by simp⟩, by decide, by decide, by decide, by decide, by decide⟩
theorem tmg_list (w : World) (G : Nat → Prop) (l : List Tm) (rows : List (List Value)) (A : Option Addr) (c n : Nat) (hn : l.length = n) (h : RdG w G 11 A n rows.flatten) (ht : TmsG w G l rows) (hl : n ≤ 1048576) :
    TmG w G (.mk 8 false 0 0 ByteArray.empty [] 0 l [] [] ByteArray.empty 0) [.int .i64 8, .bool false, .int .i64 0, .float .f64 0, .string ByteArray.empty, .slice none 0 0, .int .u64 0, .slice A n c, .slice none 0 0, .string ByteArray.empty, .int .i64 0] := by
  subst hn
  simp only [TmG]
  exact ⟨none, 0, A, c, none, 0, rfl, RdG.nil, ⟨rows, h, ht⟩, rfl, ⟨[], RdG.nil, by simp [TmsG]⟩, ⟨by decide, by simp, hl, by simp, by decide, by simp⟩, by decide, by decide, by decide, by decide, by decide⟩
theorem tmg_fields (w : World) (G : Nat → Prop) (k : Int) (cl : ByteArray) (v : Int) (ns : List ByteArray) (l : List Tm) (rows : List (List Value)) (A : Option Addr) (c n : Nat) (hnl : l.length = n) (hn : ns.length = n) (h : RdG w G 12 A n (entRows ns rows)) (ht : TmsG w G l rows) (hl : n ≤ 1048576) (hnb : ∀ n ∈ ns, n.size ≤ 1048576)
    (hk : (Lit.int .i64 k).wf = true) (hcl : cl.size ≤ 1048576) (hv : (Lit.int .i64 v).wf = true) :
    TmG w G (.mk k false 0 0 ByteArray.empty [] 0 [] ns l cl v) [.int .i64 k, .bool false, .int .i64 0, .float .f64 0, .string ByteArray.empty, .slice none 0 0, .int .u64 0, .slice none 0 0, .slice A n c, .string cl, .int .i64 v] := by
  subst hnl
  simp only [TmG]
  exact ⟨none, 0, none, 0, A, c, rfl, RdG.nil, ⟨[], RdG.nil, by simp [TmsG]⟩, hn, ⟨rows, h, ht⟩, ⟨by decide, by simp, by simp, hl, hcl, hnb⟩, hk, by decide, by decide, by decide, hv⟩

theorem Fr.cells {S : List Nat} {W w : World} (h : Fr S W w) : (∀ b o, b < W.heap.size → ¬ b ∈ S → w.cell? ⟨b, o, none⟩ = W.cell? ⟨b, o, none⟩) :=
  fun b o hb hS => World.cell?_of_block (a := ⟨b, o, none⟩) (h.block b hb hS)

/-- a row (or nil) that is filled with terms, and the terms in it, in memory from B0 on -/
structure PAcc (wr : World) (B0 e size : Nat) (A : Option Addr) (cap k : Nat) (flat : List Value) (ts : List Tm) (rows : List (List Value)) : Prop where
  row : RowN wr e size A cap k flat
  terms : TmsG wr (fun b => B0 ≤ b ∧ b < wr.heap.size ∧ b ∉ ownL A) ts rows
  new : ∀ b ∈ ownL A, B0 ≤ b
theorem PAcc.start (w : World) (B0 e size : Nat) : PAcc w B0 e size none 0 0 [] [] [] := ⟨.inl ⟨rfl, rfl, rfl, rfl⟩, by simp [TmsG], fun b hb => by cases hb⟩
theorem PAcc.step {wr w1 w2 : World} {B0 e size : Nat} {A : Option Addr} {cap k : Nat} {flat flat2 : List Value} {ts : List Tm} {rows : List (List Value)} (h : PAcc wr B0 e size A cap k flat ts rows) (hB : B0 ≤ wr.heap.size)
    (hb : Below wr.heap.size wr w1) {t : Tm} {cs : List Value} (ht : TmG w1 (fun b => wr.heap.size ≤ b ∧ b < w1.heap.size) t cs) {o : Obj} {g2 cap2 : Nat} (hr : Row w2 e size g2 cap2 (k + 1) flat2) (hf : Fr (ownL A) (w1.alloc o) w2)
    (hg : g2 ∈ ownL A ∨ (w1.alloc o).heap.size ≤ g2) : PAcc w2 B0 e size (some ⟨g2, 0, none⟩) cap2 (k + 1) flat2 (ts ++ [t]) (rows ++ [cs]) := by
  have hlt := h.row.lt
  have hs1 := hb.size
  have hfs := hf.size
  simp only [World.size_alloc] at hg hfs
  refine ⟨hr.toN, TmsG.snoc (TmG.keep (fun b hbG => ?_) t ht) ts (TmsG.keep (fun b hbG => ?_) ts h.terms), fun b hm => ?_⟩
  · have hnot : b ∉ ownL A := fun hm => by have := hlt b hm; omega
    refine ⟨⟨by omega, by omega, ?_⟩, fun off => ?_⟩
    · intro hm
      simp only [ownL, List.mem_singleton] at hm
      subst hm
      rcases hg with hg | hg
      · exact hnot hg
      · omega
    · exact (hf.cells b off (by simp; omega) hnot).trans (World.cell?_of_block (a := ⟨b, off, none⟩) (Below.heap_alloc _ _ _ (by show b < w1.heap.size; omega)))
  · obtain ⟨h1, h2, h3⟩ := hbG
    refine ⟨⟨h1, by omega, ?_⟩, fun off => ?_⟩
    · intro hm
      simp only [ownL, List.mem_singleton] at hm
      subst hm
      rcases hg with hg | hg
      · exact h3 hg
      · omega
    · exact (hf.cells b off (by simp; omega) h3).trans ((World.cell?_of_block (a := ⟨b, off, none⟩) (Below.heap_alloc _ _ _ (by show b < w1.heap.size; omega))).trans (hb.cell (p := ⟨b, off, none⟩) h2))
  · simp only [ownL, List.mem_singleton] at hm
    subst hm
    rcases hg with hg | hg
    · exact h.new _ hg
    · omega
theorem PAcc.fr {wr w2 : World} {B0 e size : Nat} {A : Option Addr} {cap k : Nat} {flat : List Value} {ts : List Tm} {rows : List (List Value)} (h : PAcc wr B0 e size A cap k flat ts rows) {T : List Nat} (hf : Fr T wr w2) (hT : ∀ b ∈ T, b < B0) :
    PAcc w2 B0 e size A cap k flat ts rows :=
  have hs := hf.size
  ⟨h.row.fr hf (fun b hm hT' => by have := h.new b hm; have := hT b hT'; omega),
   TmsG.keep (fun b hb => ⟨⟨hb.1, by omega, hb.2.2⟩, fun off => hf.cells b off hb.2.1 (fun hm => by have := hT b hm; omega)⟩) ts h.terms, h.new⟩
theorem RowN.rdG {w : World} {e size cap n : Nat} {A : Option Addr} {xs : List Value} (h : RowN w e size A cap n xs) {G : Nat → Prop} (hG : ∀ b ∈ ownL A, G b) : RdG w G size A n xs := by
  rcases h with ⟨rfl, rfl, rfl, rfl⟩ | ⟨g, rfl, h⟩
  · exact RdG.nil
  · exact h.rdG (hG g (by simp [ownL]))

theorem PAcc.done {wr : World} {B0 B e size : Nat} {A : Option Addr} {cap k : Nat} {flat : List Value} {ts : List Tm} {rows : List (List Value)} (h : PAcc wr B0 e size A cap k flat ts rows) (hB : B ≤ B0) :
    RdG wr (fun b => B ≤ b ∧ b < wr.heap.size) size A k flat ∧ TmsG wr (fun b => B ≤ b ∧ b < wr.heap.size) ts rows :=
  ⟨h.row.rdG (fun b hm => ⟨Nat.le_trans hB (h.new b hm), h.row.lt b hm⟩), TmsG.keep (fun _ hb => ⟨⟨Nat.le_trans hB hb.1, hb.2.1⟩, fun _ => rfl⟩) ts h.terms⟩

theorem one_cons {u : Value} {l : List Value} (h : u.oneCell' = true) (hl : ∀ v ∈ l, v.oneCell' = true) : ∀ v ∈ u :: l, v.oneCell' = true := by
  intro v hv
  rcases List.mem_cons.1 hv with rfl | hv
  · exact h
  · exact hl v hv
theorem entry_info : (Try.prog.info? 110).map (fun i => (i.zero, i.size, i.bytes)) = some (some (.agg #[.string ByteArray.empty, .int .i64 0, .bool false, .int .i64 0, .float .f64 0, .string ByteArray.empty, .slice none 0 0, .int .u64 0, .slice none 0 0, .slice none 0 0, .string ByteArray.empty, .int .i64 0]), 12, 168) := by kernel_rfl
theorem RdG.of {w : World} {size n B : Nat} {A : Option Addr} {xs : List Value} (h : Rd w B size A n xs) : RdG w (· < B) size A n xs := h
mutual
theorem TmAt.more {w : World} {B B' : Nat} (hB : B ≤ B') : ∀ (t : Tm) {cs : List Value}, TmAt w B t cs → TmAt w B' t cs := by
  intro t cs h
  cases t with
  | mk k b i f s bs r l ns vs c v =>
    simp only [TmAt] at h ⊢
    obtain ⟨A5, c5, A7, c7, A8, c8, e, h5, ⟨rows, h7, h7'⟩, hn, ⟨rows8, h8, h8'⟩, hb, hw⟩ := h
    exact ⟨A5, c5, A7, c7, A8, c8, e, h5.more hB, ⟨rows, h7.more hB, TmsAt.more hB l h7'⟩, hn, ⟨rows8, h8.more hB, TmsAt.more hB vs h8'⟩, hb, hw⟩
theorem TmsAt.more {w : World} {B B' : Nat} (hB : B ≤ B') : ∀ (ts : List Tm) {rows : List (List Value)}, TmsAt w B ts rows → TmsAt w B' ts rows := by
  intro ts rows h
  cases ts with
  | nil => simpa only [TmsAt] using h
  | cons t ts =>
    simp only [TmsAt] at h ⊢
    obtain ⟨r, rs, e, h1, h2⟩ := h
    exact ⟨r, rs, e, TmAt.more hB t h1, TmsAt.more hB ts h2⟩
end
theorem entRows_snoc {ns : List ByteArray} {rows : List (List Value)} {cs : List Value} {k : Nat} {n : ByteArray} (hn : ns[k]? = some n) (hk : rows.length = k) : entRows (ns.take (k + 1)) (rows ++ [cs]) = entRows (ns.take k) rows ++ (.string n :: cs) := by
  obtain ⟨hkl, rfl⟩ := List.getElem?_eq_some_iff.1 hn
  unfold entRows
  rw [List.take_succ_eq_append_getElem hkl, List.zip_append (by simp; omega)]
  simp
theorem plainTs_take {xs : List V} {k : Nat} (h : k < xs.length) (d : Int) : plainTs (xs.take (k + 1)) d = plainTs (xs.take k) d ++ [plainT xs[k] d] := by
  rw [plainTs_map, plainTs_map, List.take_succ_eq_append_getElem h, List.map_append, List.map_cons, List.map_nil]
theorem plainTs_len (xs : List V) (d : Int) : (plainTs xs d).length = xs.length := by simp [plainTs_map]
end Go.Proofs.Ythanmakakcmkeaa
