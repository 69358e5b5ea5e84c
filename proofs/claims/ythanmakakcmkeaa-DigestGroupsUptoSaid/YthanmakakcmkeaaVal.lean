/- Terms and values in plain Lean, and how they lie in memory. -/
import Derived.Test.YthanmakakcmkeaaMem
namespace Go.Proofs.Ythanmakakcmkeaa
open Go.RowKit

/-- A term: api.Term's fields; the entries' names and their terms apart. -/
inductive Tm where
  | mk (kind : Int) (bool : Bool) (int : Int) (float : Nat) (text : ByteArray) (bytes : List UInt8) (ref : Int) (list : List Tm) (names : List ByteArray) (vals : List Tm) (cls : ByteArray) (ver : Int)

/-- A value behind an interface. -/
inductive V where
  | nil
  | bool (b : Bool)
  | int (n : Int)
  | float (f : Nat)
  | text (s : ByteArray)
  | bytes (l : List UInt8)
  | ref (n : Int)
  | list (l : List V)
  | dict (names : List ByteArray) (vals : List V)
  | recd (cls : ByteArray) (ver : Int) (names : List ByteArray) (vals : List V)
  | nothing
  | alien

def u8v (c : UInt8) : Value := .int .u8 c.toNat

/-- How entries lie: the name's cell ahead of the term's. -/
def entRows (ns : List ByteArray) (rows : List (List Value)) : List Value := ((ns.zip rows).map fun x => Value.string x.1 :: x.2).flatten

/-- How fields lie. -/
def fldCells : List ByteArray → List Value → List Value
  | n :: ns, v :: vs => .string n :: v :: fldCells ns vs
  | _, _ => []

mutual
/-- The cells of a term. -/
def TmAt (w : World) (B : Nat) : Tm → List Value → Prop
  | .mk k b i f s bs r l ns vs c v, cs => ∃ A5 c5 A7 c7 A8 c8, cs = [.int .i64 k, .bool b, .int .i64 i, .float .f64 f, .string s, .slice A5 bs.length c5, .int .u64 r, .slice A7 l.length c7, .slice A8 vs.length c8, .string c, .int .i64 v] ∧
      Rd w B 1 A5 bs.length (bs.map u8v) ∧ (∃ rows, Rd w B 11 A7 l.length rows.flatten ∧ TmsAt w B l rows) ∧ ns.length = vs.length ∧ (∃ rows, Rd w B 12 A8 vs.length (entRows ns rows) ∧ TmsAt w B vs rows) ∧
      (s.size ≤ 1048576 ∧ bs.length ≤ 1048576 ∧ l.length ≤ 1048576 ∧ vs.length ≤ 1048576 ∧ c.size ≤ 1048576 ∧ (∀ n ∈ ns, n.size ≤ 1048576)) ∧
      ((Lit.int .i64 k).wf = true ∧ (Lit.int .i64 i).wf = true ∧ (Lit.float .f64 f).wf = true ∧ (Lit.int .u64 r).wf = true ∧ (Lit.int .i64 v).wf = true)
def TmsAt (w : World) (B : Nat) : List Tm → List (List Value) → Prop
  | [], rows => rows = []
  | t :: ts, rows => ∃ r rs, rows = r :: rs ∧ TmAt w B t r ∧ TmsAt w B ts rs
end

/-- The types that a value's kind goes by. -/
def known (T : TypeId) : Bool := T == 4 || T == 2 || T == 25 || T == 9 || T == 26 || T == 28 || T == 75 || T == 77 || T == 79

mutual
/-- The interface value v is the value x, in just the blocks S. -/
def VAt (w : World) : V → Value → List Nat → Prop
  | .nil, v, S => v = .nilIface ∧ S = []
  | .bool b, v, S => v = .iface 4 (.bool b) ∧ S = []
  | .int n, v, S => v = .iface 2 (.int .i64 n) ∧ S = [] ∧ (Lit.int .i64 n).wf = true
  | .float f, v, S => v = .iface 25 (.float .f64 f) ∧ S = [] ∧ (Lit.float .f64 f).wf = true
  | .text s, v, S => v = .iface 9 (.string s) ∧ S = [] ∧ s.size ≤ 1048576
  | .bytes l, v, S => ∃ g cap, v = .iface 26 (.slice (some ⟨g, 0, none⟩) l.length cap) ∧ Row w 5 1 g cap l.length (l.map u8v) ∧ S = [g] ∧ l.length ≤ 1048576
  | .ref n, v, S => v = .iface 28 (.int .u64 n) ∧ S = [] ∧ (Lit.int .u64 n).wf = true
  | .list l, v, S => ∃ g cap vs Ss, v = .iface 75 (.slice (some ⟨g, 0, none⟩) l.length cap) ∧ Row w 20 1 g cap l.length vs ∧ VsAt w l vs Ss ∧ S = g :: Ss ∧ l.length ≤ 1048576
  | .dict ns xs, v, S => ∃ g cap vs Ss, v = .iface 77 (.slice (some ⟨g, 0, none⟩) xs.length cap) ∧ Row w 112 2 g cap xs.length (fldCells ns vs) ∧ VsAt w xs vs Ss ∧ S = g :: Ss ∧ ns.length = xs.length ∧ xs.length ≤ 1048576 ∧ (∀ n ∈ ns, n.size ≤ 1048576)
  | .recd c r ns xs, v, S => ∃ p g cap vs Ss, v = .iface 79 (.pointer (some ⟨p, 0, none⟩)) ∧ Blk w p 81 #[.string c, .int .i64 r, .slice (some ⟨g, 0, none⟩) xs.length cap] ∧
      Row w 112 2 g cap xs.length (fldCells ns vs) ∧ VsAt w xs vs Ss ∧ S = p :: g :: Ss ∧ ns.length = xs.length ∧ xs.length ≤ 1048576 ∧ (∀ n ∈ ns, n.size ≤ 1048576) ∧ c.size ≤ 1048576 ∧ (Lit.int .i64 r).wf = true
  | .nothing, v, S => v = .iface 79 (.pointer none) ∧ S = []
  | .alien, v, S => ∃ T u, v = .iface T u ∧ known T = false ∧ S = []
def VsAt (w : World) : List V → List Value → List Nat → Prop
  | [], vs, S => vs = [] ∧ S = []
  | x :: xs, vs, S => ∃ v vr S1 S2, vs = v :: vr ∧ S = S1 ++ S2 ∧ VAt w x v S1 ∧ VsAt w xs vr S2
end

mutual
theorem VAt.lt {w : World} : ∀ (x : V) {v : Value} {S : List Nat}, VAt w x v S → ∀ b ∈ S, b < w.heap.size := by
  intro x v S h
  cases x with
  | bytes l => obtain ⟨g, cap, _, hr, rfl, _⟩ := (by simpa only [VAt] using h); intro b hb; simp at hb; subst hb; exact hr.lt
  | list l =>
    obtain ⟨g, cap, vs, Ss, _, hr, hv, rfl, _⟩ := (by simpa only [VAt] using h)
    intro b hb; rcases List.mem_cons.1 hb with rfl | hb; exact hr.lt; exact VsAt.lt l hv b hb
  | dict ns xs =>
    obtain ⟨g, cap, vs, Ss, _, hr, hv, rfl, _⟩ := (by simpa only [VAt] using h)
    intro b hb; rcases List.mem_cons.1 hb with rfl | hb; exact hr.lt; exact VsAt.lt xs hv b hb
  | recd c r ns xs =>
    obtain ⟨p, g, cap, vs, Ss, _, hp, hr, hv, rfl, _⟩ := (by simpa only [VAt] using h)
    intro b hb; rcases List.mem_cons.1 hb with rfl | hb; exact hp.lt
    rcases List.mem_cons.1 hb with rfl | hb; exact hr.lt; exact VsAt.lt xs hv b hb
  | nil => obtain ⟨_, rfl⟩ := (by simpa only [VAt] using h); intro b hb; cases hb
  | bool => obtain ⟨_, rfl⟩ := (by simpa only [VAt] using h); intro b hb; cases hb
  | int => obtain ⟨_, rfl, _⟩ := (by simpa only [VAt] using h); intro b hb; cases hb
  | float => obtain ⟨_, rfl, _⟩ := (by simpa only [VAt] using h); intro b hb; cases hb
  | text => obtain ⟨_, rfl, _⟩ := (by simpa only [VAt] using h); intro b hb; cases hb
  | ref => obtain ⟨_, rfl, _⟩ := (by simpa only [VAt] using h); intro b hb; cases hb
  | nothing => obtain ⟨_, rfl⟩ := (by simpa only [VAt] using h); intro b hb; cases hb
  | alien => obtain ⟨_, _, _, _, rfl⟩ := (by simpa only [VAt] using h); intro b hb; cases hb
theorem VsAt.lt {w : World} : ∀ (xs : List V) {vs : List Value} {S : List Nat}, VsAt w xs vs S → ∀ b ∈ S, b < w.heap.size := by
  intro xs vs S h
  cases xs with
  | nil => obtain ⟨_, rfl⟩ := (by simpa only [VsAt] using h); intro b hb; cases hb
  | cons x xs =>
    obtain ⟨v, vr, S1, S2, _, rfl, h1, h2⟩ := (by simpa only [VsAt] using h)
    intro b hb; rcases List.mem_append.1 hb with hb | hb; exact VAt.lt x h1 b hb; exact VsAt.lt xs h2 b hb
end

mutual
theorem VAt.same {w w' : World} : ∀ (x : V) {v : Value} {S : List Nat}, VAt w x v S → (∀ b ∈ S, w'.heap[b]? = w.heap[b]?) → VAt w' x v S := by
  intro x v S h hs
  cases x with
  | bytes l =>
    simp only [VAt] at h ⊢
    obtain ⟨g, cap, e, hr, rfl, hl⟩ := h
    exact ⟨g, cap, e, hr.same (hs g (by simp)), rfl, hl⟩
  | list l =>
    simp only [VAt] at h ⊢
    obtain ⟨g, cap, vs, Ss, e, hr, hv, rfl, hl⟩ := h
    exact ⟨g, cap, vs, Ss, e, hr.same (hs g (by simp)), VsAt.same l hv (fun b hb => hs b (by simp [hb])), rfl, hl⟩
  | dict ns xs =>
    simp only [VAt] at h ⊢
    obtain ⟨g, cap, vs, Ss, e, hr, hv, rfl, hl⟩ := h
    exact ⟨g, cap, vs, Ss, e, hr.same (hs g (by simp)), VsAt.same xs hv (fun b hb => hs b (by simp [hb])), rfl, hl⟩
  | recd c r ns xs =>
    simp only [VAt] at h ⊢
    obtain ⟨p, g, cap, vs, Ss, e, hp, hr, hv, rfl, hl⟩ := h
    exact ⟨p, g, cap, vs, Ss, e, hp.same (hs p (by simp)), hr.same (hs g (by simp)), VsAt.same xs hv (fun b hb => hs b (by simp [hb])), rfl, hl⟩
  | nil => simpa only [VAt] using h
  | bool => simpa only [VAt] using h
  | int => simpa only [VAt] using h
  | float => simpa only [VAt] using h
  | text => simpa only [VAt] using h
  | ref => simpa only [VAt] using h
  | nothing => simpa only [VAt] using h
  | alien => simpa only [VAt] using h
theorem VsAt.same {w w' : World} : ∀ (xs : List V) {vs : List Value} {S : List Nat}, VsAt w xs vs S → (∀ b ∈ S, w'.heap[b]? = w.heap[b]?) → VsAt w' xs vs S := by
  intro xs vs S h hs
  cases xs with
  | nil => simpa only [VsAt] using h
  | cons x xs =>
    simp only [VsAt] at h ⊢
    obtain ⟨v, vr, S1, S2, e, rfl, h1, h2⟩ := h
    exact ⟨v, vr, S1, S2, e, rfl, VAt.same x h1 (fun b hb => hs b (by simp [hb])), VsAt.same xs h2 (fun b hb => hs b (by simp [hb]))⟩
end

theorem VAt.form {w : World} {x : V} {v : Value} {S : List Nat} (h : VAt w x v S) : v = .nilIface ∨ ∃ T u, v = .iface T u := by
  cases x <;> simp only [VAt] at h
  case nil => exact .inl h.1
  case bool => exact .inr ⟨_, _, h.1⟩
  case int => exact .inr ⟨_, _, h.1⟩
  case float => exact .inr ⟨_, _, h.1⟩
  case text => exact .inr ⟨_, _, h.1⟩
  case ref => exact .inr ⟨_, _, h.1⟩
  case nothing => exact .inr ⟨_, _, h.1⟩
  case bytes => obtain ⟨_, _, e, _⟩ := h; exact .inr ⟨_, _, e⟩
  case list => obtain ⟨_, _, _, _, e, _⟩ := h; exact .inr ⟨_, _, e⟩
  case dict => obtain ⟨_, _, _, _, e, _⟩ := h; exact .inr ⟨_, _, e⟩
  case recd => obtain ⟨_, _, _, _, _, e, _⟩ := h; exact .inr ⟨_, _, e⟩
  case alien => obtain ⟨_, _, e, _⟩ := h; exact .inr ⟨_, _, e⟩
theorem VAt.cells {w : World} {x : V} {v : Value} {S : List Nat} (h : VAt w x v S) : (match v with | .agg cs => cs | v => #[v]) = #[v] := by
  rcases h.form with rfl | ⟨T, u, rfl⟩ <;> rfl
theorem VAt.one {w : World} {x : V} {v : Value} {S : List Nat} (h : VAt w x v S) : v.oneCell' = true := by
  rcases h.form with rfl | ⟨T, u, rfl⟩ <;> rfl
theorem VAt.below {w w' : World} {x : V} {v : Value} {S : List Nat} (h : VAt w x v S) (hb : Below w.heap.size w w') : VAt w' x v S :=
  VAt.same x h (fun b hm => hb.block b (VAt.lt x h b hm))
theorem VsAt.below {w w' : World} {xs : List V} {vs : List Value} {S : List Nat} (h : VsAt w xs vs S) (hb : Below w.heap.size w w') : VsAt w' xs vs S :=
  VsAt.same xs h (fun b hm => hb.block b (VsAt.lt xs h b hm))
theorem VAt.fr {w w' : World} {x : V} {v : Value} {S T : List Nat} (h : VAt w x v S) (hf : Fr T w w') (hd : ∀ b ∈ S, b ∉ T) : VAt w' x v S :=
  VAt.same x h (fun b hm => hf.block b (VAt.lt x h b hm) (hd b hm))

theorem VsAt.length {w : World} : ∀ (xs : List V) {vs : List Value} {S : List Nat}, VsAt w xs vs S → vs.length = xs.length
  | [], vs, S, h => by obtain ⟨rfl, _⟩ := (by simpa only [VsAt] using h); rfl
  | x :: xs, vs, S, h => by
    obtain ⟨v, vr, S1, S2, rfl, _, _, h2⟩ := (by simpa only [VsAt] using h)
    simp [VsAt.length xs h2]

theorem VsAt.get {w : World} : ∀ (xs : List V) {vs : List Value} {S : List Nat}, VsAt w xs vs S → ∀ (i : Nat) (x : V), xs[i]? = some x → ∃ v S1, vs[i]? = some v ∧ VAt w x v S1 ∧ ∀ b ∈ S1, b ∈ S
  | [], vs, S, _, i, x, hx => by simp at hx
  | y :: xs, vs, S, h, i, x, hx => by
    obtain ⟨v, vr, S1, S2, rfl, rfl, h1, h2⟩ := (by simpa only [VsAt] using h)
    cases i with
    | zero => simp at hx; subst hx; exact ⟨v, S1, by simp, h1, fun b hb => by simp [hb]⟩
    | succ i =>
      obtain ⟨v', S', e, h', hm⟩ := VsAt.get xs h2 i x (by simpa using hx)
      exact ⟨v', S', by simpa using e, h', fun b hb => by simp [hm b hb]⟩

theorem VsAt.snoc {w : World} {x : V} {v : Value} {S1 : List Nat} (h1 : VAt w x v S1) : ∀ (xs : List V) {vs : List Value} {S : List Nat}, VsAt w xs vs S → VsAt w (xs ++ [x]) (vs ++ [v]) (S ++ S1)
  | [], vs, S, h => by
    obtain ⟨rfl, rfl⟩ := (by simpa only [VsAt] using h)
    simp only [List.nil_append, VsAt]
    exact ⟨v, [], S1, [], rfl, by simp, h1, rfl, rfl⟩
  | y :: xs, vs, S, h => by
    obtain ⟨u, vr, T1, T2, rfl, rfl, h2, h3⟩ := (by simpa only [VsAt] using h)
    simp only [List.cons_append, VsAt]
    exact ⟨u, vr ++ [v], T1, T2 ++ S1, rfl, by simp, h2, VsAt.snoc h1 xs h3⟩

mutual
theorem TmAt.keep {w w' : World} {B : Nat} (hk : ∀ b off, b < B → w'.cell? ⟨b, off, none⟩ = w.cell? ⟨b, off, none⟩) : ∀ (t : Tm) {cs : List Value}, TmAt w B t cs → TmAt w' B t cs := by
  intro t cs h
  cases t with
  | mk k b i f s bs r l ns vs c v =>
    simp only [TmAt] at h ⊢
    obtain ⟨A5, c5, A7, c7, A8, c8, e, h5, ⟨rows, h7, h7'⟩, hn, ⟨rows8, h8, h8'⟩, hb, hw⟩ := h
    exact ⟨A5, c5, A7, c7, A8, c8, e, h5.keep hk, ⟨rows, h7.keep hk, TmsAt.keep hk l h7'⟩, hn, ⟨rows8, h8.keep hk, TmsAt.keep hk vs h8'⟩, hb, hw⟩
theorem TmsAt.keep {w w' : World} {B : Nat} (hk : ∀ b off, b < B → w'.cell? ⟨b, off, none⟩ = w.cell? ⟨b, off, none⟩) : ∀ (ts : List Tm) {rows : List (List Value)}, TmsAt w B ts rows → TmsAt w' B ts rows := by
  intro ts rows h
  cases ts with
  | nil => simpa only [TmsAt] using h
  | cons t ts =>
    simp only [TmsAt] at h ⊢
    obtain ⟨r, rs, e, h1, h2⟩ := h
    exact ⟨r, rs, e, TmAt.keep hk t h1, TmsAt.keep hk ts h2⟩
end

theorem TmAt.below {w w' : World} {B C : Nat} {t : Tm} {cs : List Value} (h : TmAt w B t cs) (hb : Below C w w') (hC : B ≤ C) : TmAt w' B t cs :=
  TmAt.keep (fun b off hlt => hb.cell (p := ⟨b, off, none⟩) (show b < C by omega)) t h

theorem TmAt.drew {w : World} {B : Nat} {t : Tm} {cs : List Value} (h : TmAt w B t cs) : TmAt w.drew B t cs := TmAt.keep (w := w) (w' := w.drew) (fun _ _ _ => rfl) t h
theorem VAt.drew {w : World} {x : V} {v : Value} {S : List Nat} (h : VAt w x v S) : VAt w.drew x v S := VAt.same (w := w) (w' := w.drew) x h (fun _ _ => rfl)
theorem VsAt.drew {w : World} {x : List V} {v : List Value} {S : List Nat} (h : VsAt w x v S) : VsAt w.drew x v S := VsAt.same (w := w) (w' := w.drew) x h (fun _ _ => rfl)
theorem VsAt.fr {w w' : World} {xs : List V} {vs : List Value} {S T : List Nat} (h : VsAt w xs vs S) (hf : Fr T w w') (hd : ∀ b ∈ S, b ∉ T) : VsAt w' xs vs S :=
  VsAt.same xs h (fun b hm => hf.block b (VsAt.lt xs h b hm) (hd b hm))

theorem TmAt.len {w : World} {B : Nat} : ∀ (t : Tm) {cs : List Value}, TmAt w B t cs → cs.length = 11
  | .mk .., cs, h => by
    simp only [TmAt] at h
    obtain ⟨A5, c5, A7, c7, A8, c8, e, _⟩ := h
    rw [e]; rfl

theorem TmsAt.get {w : World} {B : Nat} : ∀ (ts : List Tm) {rows : List (List Value)}, TmsAt w B ts rows → rows.length = ts.length ∧ ∀ (i : Nat) (t : Tm), ts[i]? = some t → ∃ r, rows[i]? = some r ∧ TmAt w B t r
  | [], rows, h => by
    obtain rfl : rows = [] := by simpa only [TmsAt] using h
    exact ⟨rfl, fun i t ht => by simp at ht⟩
  | y :: ts, rows, h => by
    obtain ⟨r, rs, rfl, h1, h2⟩ := (by simpa only [TmsAt] using h)
    obtain ⟨hl, hg⟩ := TmsAt.get ts h2
    refine ⟨by simp [hl], fun i t ht => ?_⟩
    cases i with
    | zero => simp at ht; subst ht; exact ⟨r, by simp, h1⟩
    | succ i => obtain ⟨r', e, h'⟩ := hg i t (by simpa using ht); exact ⟨r', by simpa using e, h'⟩

/-- What a loop that fills a list of values has by now: the row at block g, the values in it, all in memory that is newer than w. -/
structure Acc (w wr : World) (e size g cap k : Nat) (flat : List Value) (xs : List V) (us : List Value) (S : List Nat) : Prop where
  row : Row wr e size g cap k flat
  vals : VsAt wr xs us S
  nodup : (g :: S).Nodup
  new : ∀ b ∈ g :: S, w.heap.size ≤ b
  below : Below w.heap.size w wr

theorem Acc.start (w : World) (e size : Nat) : Acc w (w.alloc (.cells #[] e)) e size w.heap.size 0 0 [] [] [] [] :=
  ⟨Row.made w e size #[] 0 (by decide) (by simp), by simp [VsAt], by simp, by simp, (Below.refl _ _).alloc (Nat.le_refl _) _⟩

theorem Acc.step {w wr w1 w2 : World} {e size g cap k : Nat} {flat : List Value} {xs : List V} {us : List Value} {S : List Nat} (h : Acc w wr e size g cap k flat xs us S)
    {x : V} {v : Value} {S1 : List Nat} {o : Obj} {g2 cap2 : Nat} {flat2 : List Value} (hb : Below wr.heap.size wr w1) (hv : VAt w1 x v S1) (hn : S1.Nodup) (hS : ∀ b ∈ S1, wr.heap.size ≤ b)
    (hr : Row w2 e size g2 cap2 (k + 1) flat2) (hf : Fr [g] (w1.alloc o) w2) (hg : g2 = g ∨ (w1.alloc o).heap.size ≤ g2) :
    Acc w w2 e size g2 cap2 (k + 1) flat2 (xs ++ [x]) (us ++ [v]) (S ++ S1) := by
  have hglt := h.row.lt
  have hs1 := hb.size
  have hg0 := h.new g (by simp)
  have hbw := h.below.size
  have hnd := List.nodup_cons.1 h.nodup
  have hfs := hf.size
  simp only [World.size_alloc] at hfs hg
  have hS0 : ∀ b ∈ S, b < wr.heap.size := VsAt.lt xs h.vals
  have hS1 : ∀ b ∈ S1, b < w1.heap.size := VAt.lt x hv
  have hgS1 : g ∉ S1 := fun hm => by have := hS g hm; omega
  refine ⟨hr, ?_, ?_, ?_, ?_⟩
  · have h1 : VsAt w2 xs us S := ((h.vals.below hb).below ((Below.refl _ _).alloc (Nat.le_refl _) o)).fr hf (fun b hm => by simp; rintro rfl; exact hnd.1 hm)
    have h2 : VAt w2 x v S1 := (hv.below ((Below.refl _ _).alloc (Nat.le_refl _) o)).fr hf (fun b hm => by simp; rintro rfl; exact hgS1 hm)
    exact VsAt.snoc h2 xs h1
  · refine List.nodup_cons.2 ⟨?_, List.nodup_append.2 ⟨hnd.2, hn, ?_⟩⟩
    · intro hm
      rcases List.mem_append.1 hm with hm | hm
      · rcases hg with rfl | hg
        · exact hnd.1 hm
        · have := hS0 _ hm; omega
      · rcases hg with rfl | hg
        · exact hgS1 hm
        · have := hS1 _ hm; omega
    · rintro a ha b hb' rfl
      have := hS0 a ha; have := hS a hb'; omega
  · intro b hm
    rcases List.mem_cons.1 hm with rfl | hm
    · rcases hg with rfl | hg
      · exact hg0
      · omega
    · rcases List.mem_append.1 hm with hm | hm
      · exact h.new b (by simp [hm])
      · have := hS b hm; omega
  · exact h.below.trans ((hb.mono hbw).trans (((Below.refl _ _).alloc (by omega) o).trans (hf.below _ (by simp; omega) (by simp; omega))))

theorem fldCells_snoc {ns : List ByteArray} {us : List Value} {k : Nat} {n : ByteArray} (hn : ns[k]? = some n) (hu : us.length = k) (v : Value) : fldCells (ns.take (k + 1)) (us ++ [v]) = fldCells (ns.take k) us ++ [.string n, v] := by
  induction us generalizing ns k with
  | nil =>
    simp at hu
    subst hu
    cases ns with
    | nil => simp at hn
    | cons m ns => simp at hn; subst hn; simp [fldCells]
  | cons u us ih =>
    cases k with
    | zero => simp at hu
    | succ k =>
      cases ns with
      | nil => simp at hn
      | cons m ns =>
        have h := ih (ns := ns) (k := k) (by simpa using hn) (by simpa using hu)
        simp only [List.take_succ_cons, List.cons_append, fldCells, h]
end Go.Proofs.Ythanmakakcmkeaa
