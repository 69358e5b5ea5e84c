/- A term out of its reading: whatever reads as a []api.Term of small bulk is a list of terms. -/
import Derived.Test.YthanmakakcmkeaaVal
import Derived.Test.YthanmakakcmkeaaBulk
import Derived.Deep.Slices
namespace Go.Proofs.Ythanmakakcmkeaa
open Go.RowKit Go.ChangeShapes

theorem flat_lenG {rows : List (List Value)} {s : Nat} (h : ∀ r ∈ rows, r.length = s) : rows.flatten.length = rows.length * s := by
  induction rows with
  | nil => simp
  | cons r rs ih =>
    have h1 := h r (by simp)
    have h2 := ih fun r hr => h r (by simp [hr])
    simp only [List.flatten_cons, List.length_append, List.length_cons, h1, h2, Nat.add_mul]; omega
theorem flat_getG {s : Nat} : ∀ {rows : List (List Value)} (_ : ∀ r ∈ rows, r.length = s) (i : Nat) (r : List Value), rows[i]? = some r → ∀ j, j < s → rows.flatten[i * s + j]? = r[j]?
  | [], _, i, r, h, _, _ => by simp at h
  | q :: rows, hr, 0, r, h, j, hj => by
    simp at h; subst h
    rw [List.flatten_cons, Nat.zero_mul, Nat.zero_add, List.getElem?_append_left (by rw [hr q (by simp)]; exact hj)]
  | q :: rows, hr, i + 1, r, h, j, hj => by
    have hq := hr q (by simp)
    rw [List.flatten_cons, Nat.add_mul, List.getElem?_append_right (by omega), show i * s + 1 * s + j - q.length = i * s + j by omega]
    exact flat_getG (fun r hr' => hr r (by simp [hr'])) i r (by simpa using h) j hj

section
variable {H : Type} {enc : TypeId × Value → H} {W : World} {sp : Nat → Bool} {held : Bool}
theorem add_add' (a : Addr) (i j : Nat) : (a.add i).add j = a.add (i + j) := by
  unfold Addr.add
  by_cases hi : i = 0 <;> by_cases hj : j = 0 <;> simp [hi, hj, Nat.add_assoc]

theorem rows_of {n e size len m : Nat} {a : Addr} {D : Nat → DataW H} {Pl : Nat → List MemPlace} (hs : Try.prog.cellsOf e = size) (hpos : 0 < size) (hlm : len ≤ m)
    (h : ∀ i, i < m → ∃ cs', W.cells? 0 (a.add (i * Try.prog.cellsOf e)) (Try.prog.cellsOf e) = some cs' ∧ DataW.trod enc Try.prog W 0 sp held n e cs' = some (D i, Pl i)) :
    ∃ rows : List (List Value), rows.length = len ∧ (∀ i r, rows[i]? = some r → i < len ∧ r.length = size ∧ DataW.trod enc Try.prog W 0 sp held n e r = some (D i, Pl i)) ∧ Rd W W.heap.size size (some a) len rows.flatten := by
  rw [hs] at h
  have hrow : ∀ i r, ((List.range len).map fun i => (W.cells? 0 (a.add (i * size)) size).getD [])[i]? = some r → i < len ∧ W.cells? 0 (a.add (i * size)) size = some r ∧ r.length = size ∧ DataW.trod enc Try.prog W 0 sp held n e r = some (D i, Pl i) := by
    intro i r hr
    rw [List.getElem?_map] at hr
    rcases Nat.lt_or_ge i len with hi | hi
    · obtain ⟨cs', h1, h2⟩ := h i (by omega)
      simp [hi, h1] at hr
      subst hr
      exact ⟨hi, h1, (World.cells?_some h1).2.1, h2⟩
    · simp [List.getElem?_eq_none (l := List.range len) (by simpa using hi)] at hr
  have hlen : ∀ r ∈ (List.range len).map fun i => (W.cells? 0 (a.add (i * size)) size).getD [], r.length = size := fun r hr => by
    obtain ⟨i, hi⟩ := List.getElem?_of_mem hr
    exact (hrow i r hi).2.2.1
  refine ⟨(List.range len).map fun i => (W.cells? 0 (a.add (i * size)) size).getD [], by simp, fun i r hr => ⟨(hrow i r hr).1, (hrow i r hr).2.2⟩, by rw [flat_lenG hlen]; simp, fun hl => ?_⟩
  obtain ⟨b, off, spot⟩ := a
  have hcell : ∀ j, j < len * size → W.cell? ((⟨b, off, spot⟩ : Addr).add j) = ((List.range len).map fun i => (W.cells? 0 ((⟨b, off, spot⟩ : Addr).add (i * size)) size).getD []).flatten[j]? := by
    intro j hj
    have hq : j / size < len := by rw [Nat.div_lt_iff_lt_mul hpos]; exact hj
    have hm : j % size < size := Nat.mod_lt _ hpos
    have hjj : j / size * size + j % size = j := Nat.div_add_mod' j size
    obtain ⟨cs', h1, h2⟩ := h (j / size) (by omega)
    have hg := flat_getG hlen (j / size) cs' (by simp [hq, h1]) (j % size) hm
    rw [hjj] at hg
    rw [hg, ← (World.cells?_some h1).2.2 _ hm]
    rw [add_add', hjj]
  have hmul : 0 < len * size := Nat.mul_pos hl hpos
  obtain ⟨x, hx⟩ : ∃ x, ((List.range len).map fun i => (W.cells? 0 ((⟨b, off, spot⟩ : Addr).add (i * size)) size).getD []).flatten[0]? = some x := by
    rw [List.getElem?_eq_getElem (by rw [flat_lenG hlen]; simpa using hmul)]; exact ⟨_, rfl⟩
  have h0 := hcell 0 hmul
  rw [hx] at h0
  have hsp : spot = none := by simpa [Addr.add] using World.cell?_spot h0
  subst hsp
  refine ⟨b, off, rfl, ?_, fun j hj => by rw [← hcell j hj, addr_add]⟩
  rw [addr_add] at h0
  exact block_lt h0

theorem bytes_of : ∀ (rows : List (List Value)), (∀ r ∈ rows, ∃ c : UInt8, r = [u8v c]) → ∃ bs : List UInt8, bs.length = rows.length ∧ rows.flatten = bs.map u8v
  | [], _ => ⟨[], rfl, rfl⟩
  | r :: rows, h => by
    obtain ⟨c, rfl⟩ := h r (by simp)
    obtain ⟨bs, h1, h2⟩ := bytes_of rows fun r hr => h r (by simp [hr])
    exact ⟨c :: bs, by simp [h1], by simp [h2]⟩
theorem terms_of {B : Nat} : ∀ (rows : List (List Value)), (∀ r ∈ rows, ∃ t, TmAt W B t r) → ∃ ts, ts.length = rows.length ∧ TmsAt W B ts rows
  | [], _ => ⟨[], rfl, by simp [TmsAt]⟩
  | r :: rows, h => by
    obtain ⟨t, ht⟩ := h r (by simp)
    obtain ⟨ts, h1, h2⟩ := terms_of rows fun r hr => h r (by simp [hr])
    exact ⟨t :: ts, by simp [h1], by simp only [TmsAt]; exact ⟨r, rows, rfl, ht, h2⟩⟩
theorem entries_of {B : Nat} : ∀ (rows : List (List Value)), (∀ r ∈ rows, ∃ n q t, r = .string n :: q ∧ n.size ≤ 1048576 ∧ TmAt W B t q) → ∃ (ns : List ByteArray) (qs : List (List Value)) (ts : List Tm), ns.length = ts.length ∧ ts.length = rows.length ∧ rows.flatten = entRows ns qs ∧ TmsAt W B ts qs ∧ ∀ n ∈ ns, n.size ≤ 1048576
  | [], _ => ⟨[], [], [], rfl, rfl, rfl, by simp [TmsAt], by simp⟩
  | r :: rows, h => by
    obtain ⟨n, q, t, rfl, hn, ht⟩ := h r (by simp)
    obtain ⟨ns, qs, ts, h1, h2, h3, h4, h5⟩ := entries_of rows fun r hr => h r (by simp [hr])
    refine ⟨n :: ns, q :: qs, t :: ts, by simp [h1], by simp [h2], by simp [entRows, h3], by simp only [TmsAt]; exact ⟨q, qs, rfl, ht, h4⟩, fun m hm => ?_⟩
    rcases List.mem_cons.1 hm with rfl | hm
    · exact hn
    · exact h5 m hm

theorem trod_float64 {P : Program} {fuel : Nat} {t : TypeId} {cs : List Value} {x : DataW H × List MemPlace} (ht : P.underlying t = some (.float .f64)) (h : DataW.trod enc P W 0 sp held fuel t cs = some x) :
    ∃ b, cs = [.float .f64 b] ∧ (Lit.float .f64 b).wf = true := by
  cases fuel with
  | zero => simp [DataW.trod] at h
  | succ n =>
    unfold DataW.trod at h
    rw [ht] at h
    split at h <;> simp_all
theorem list11G {α : Type} {l : List α} (h : l.length = 11) : ∃ y0 y1 y2 y3 y4 y5 y6 y7 y8 y9 y10, l = [y0, y1, y2, y3, y4, y5, y6, y7, y8, y9, y10] := by
  match l, h with
  | [y0, y1, y2, y3, y4, y5, y6, y7, y8, y9, y10], _ => exact ⟨y0, y1, y2, y3, y4, y5, y6, y7, y8, y9, y10, rfl⟩

theorem slice_bulk {len m : Nat} (D : Nat → DataW H) {k : Nat} (h : Rows.uptoBulk (DataW.slice ((List.range len).map D) ((List.range (m - len)).map fun j => D (len + j))) ≤ k) : len + 1 ≤ k ∧ ∀ i, i < len → Rows.uptoBulk (D i) + 1 ≤ k := by
  simp only [Rows.uptoBulk] at h
  have h1 := bulks.length_le ((List.range len).map D)
  simp at h1
  refine ⟨by omega, fun i hi => ?_⟩
  have := bulks.part_le (d := D i) (l := (List.range len).map D) (List.mem_map.2 ⟨i, by simpa using hi, rfl⟩)
  omega

theorem string_small {s : ByteArray} {k : Nat} (h : Rows.uptoBulk (DataW.lit (H := H) (.string s.data.toList)) ≤ k) : s.size ≤ k := by
  rw [bulks.string_eq] at h
  have : s.size = s.data.toList.length := Array.length_toList.symm
  omega

theorem u8_of {n : Nat} {x : DataW H × List MemPlace} {r : List Value} (h : DataW.trod enc Try.prog W 0 sp held n 5 r = some x) : ∃ c : UInt8, r = [u8v c] := by
  obtain ⟨z, rfl, _, hw⟩ := DataW.trod_int Try.underlying5 h
  have hz : 0 ≤ z ∧ z ≤ 255 := by simpa [Lit.wf, IntKind.min, IntKind.max, IntKind.signed, IntKind.bits] using hw
  refine ⟨UInt8.ofNat z.toNat, ?_⟩
  have : ((UInt8.ofNat z.toNat).toNat : Int) = z := by simp; omega
  unfold u8v
  rw [this]

theorem term_of : ∀ (k : Nat), k ≤ 1048576 → ∀ (fuel : Nat) (cs : List Value) (d : DataW H) (ps : List MemPlace), DataW.trod enc Try.prog W 0 sp held fuel 31 cs = some (d, ps) → Rows.uptoBulk d ≤ k → ∃ t, TmAt W W.heap.size t cs := by
  intro k
  induction k with
  | zero => intro _ fuel cs d ps _ hb; have := bulks.one_le d; omega
  | succ k ih =>
    intro hk fuel cs d ps h hb
    obtain ⟨xs, n, _, hx, hcl, hxl, hf⟩ := DataW.trod_struct Try.underlying31 h
    obtain ⟨q0, q1, q2, q3, q4, q5, q6, q7, q8, q9, q10, rfl⟩ := list11G (hcl.trans (by kernel_rfl))
    obtain ⟨y0, y1, y2, y3, y4, y5, y6, y7, y8, y9, y10, rfl⟩ := list11G hxl
    simp only [Prod.mk.injEq] at hx
    obtain ⟨rfl, _⟩ := hx
    simp only [Rows.uptoBulk, Rows.uptoBulkAll, List.map_cons, List.map_nil] at hb
    have t0 := hf 0 ⟨ "Kind", 3, 0, false, "", "", 0⟩ rfl
    dsimp only at t0
    rw [show Try.prog.cellsOf 3 = 1 by kernel_rfl] at t0
    have t0 : DataW.trod enc Try.prog W 0 sp held n 3 [q0] = some y0 := t0
    have t1 := hf 1 ⟨ "Bool", 4, 1, false, "", "", 8⟩ rfl
    dsimp only at t1
    rw [show Try.prog.cellsOf 4 = 1 by kernel_rfl] at t1
    have t1 : DataW.trod enc Try.prog W 0 sp held n 4 [q1] = some y1 := t1
    have t2 := hf 2 ⟨ "Int", 2, 2, false, "", "", 16⟩ rfl
    dsimp only at t2
    rw [show Try.prog.cellsOf 2 = 1 by kernel_rfl] at t2
    have t2 : DataW.trod enc Try.prog W 0 sp held n 2 [q2] = some y2 := t2
    have t3 := hf 3 ⟨ "Float", 25, 3, false, "", "", 24⟩ rfl
    dsimp only at t3
    rw [show Try.prog.cellsOf 25 = 1 by kernel_rfl] at t3
    have t3 : DataW.trod enc Try.prog W 0 sp held n 25 [q3] = some y3 := t3
    have t4 := hf 4 ⟨ "Text", 9, 4, false, "", "", 32⟩ rfl
    dsimp only at t4
    rw [show Try.prog.cellsOf 9 = 1 by kernel_rfl] at t4
    have t4 : DataW.trod enc Try.prog W 0 sp held n 9 [q4] = some y4 := t4
    have t5 := hf 5 ⟨ "Bytes", 26, 5, false, "", "", 48⟩ rfl
    dsimp only at t5
    rw [show Try.prog.cellsOf 26 = 1 by kernel_rfl] at t5
    have t5 : DataW.trod enc Try.prog W 0 sp held n 26 [q5] = some y5 := t5
    have t6 := hf 6 ⟨ "Ref", 28, 6, false, "", "", 72⟩ rfl
    dsimp only at t6
    rw [show Try.prog.cellsOf 28 = 1 by kernel_rfl] at t6
    have t6 : DataW.trod enc Try.prog W 0 sp held n 28 [q6] = some y6 := t6
    have t7 := hf 7 ⟨ "List", 22, 7, false, "", "", 80⟩ rfl
    dsimp only at t7
    rw [show Try.prog.cellsOf 22 = 1 by kernel_rfl] at t7
    have t7 : DataW.trod enc Try.prog W 0 sp held n 22 [q7] = some y7 := t7
    have t8 := hf 8 ⟨ "Fields", 29, 8, false, "", "", 104⟩ rfl
    dsimp only at t8
    rw [show Try.prog.cellsOf 29 = 1 by kernel_rfl] at t8
    have t8 : DataW.trod enc Try.prog W 0 sp held n 29 [q8] = some y8 := t8
    have t9 := hf 9 ⟨ "Class", 9, 9, false, "", "", 128⟩ rfl
    dsimp only at t9
    rw [show Try.prog.cellsOf 9 = 1 by kernel_rfl] at t9
    have t9 : DataW.trod enc Try.prog W 0 sp held n 9 [q9] = some y9 := t9
    have t10 := hf 10 ⟨ "Version", 3, 10, false, "", "", 144⟩ rfl
    dsimp only at t10
    rw [show Try.prog.cellsOf 3 = 1 by kernel_rfl] at t10
    have t10 : DataW.trod enc Try.prog W 0 sp held n 3 [q10] = some y10 := t10
    clear hf h hcl hxl
    obtain ⟨z0, e0, _, w0⟩ := DataW.trod_int Try.underlying3 t0
    obtain ⟨z1, e1, _⟩ := DataW.trod_bool Try.underlying4 t1
    obtain ⟨z2, e2, _, w2⟩ := DataW.trod_int Try.underlying2 t2
    obtain ⟨z3, e3, w3⟩ := trod_float64 Try.underlying25 t3
    obtain ⟨z4, e4, d4, _⟩ := DataW.trod_string Try.underlying9 t4
    obtain ⟨z6, e6, _, w6⟩ := DataW.trod_int Try.underlying28 t6
    obtain ⟨z9, e9, d9, _⟩ := DataW.trod_string Try.underlying9 t9
    obtain ⟨z10, e10, _, w10⟩ := DataW.trod_int Try.underlying3 t10
    cases e0; cases e1; cases e2; cases e3; cases e4; cases e6; cases e9; cases e10
    have h4 : z4.size ≤ 1048576 := string_small (H := H) (k := 1048576) (by have := congrArg Prod.fst d4; dsimp only at this; rw [← this]; omega)
    have h9 : z9.size ≤ 1048576 := string_small (H := H) (k := 1048576) (by have := congrArg Prod.fst d9; dsimp only at this; rw [← this]; omega)
    have hbytes : ∃ (A5 : Option Addr) (c5 : Nat) (bs : List UInt8), q5 = .slice A5 bs.length c5 ∧ Rd W W.heap.size 1 A5 bs.length (bs.map u8v) ∧ bs.length ≤ 1048576 := by
      rcases Deep.open_slice Try.underlying26 t5 with ⟨e5, _⟩ | ⟨a, len, cap, m, n5, D, Pl, e5, _, hlc, _, hm, hd, hel⟩
      · cases e5; exact ⟨none, 0, [], rfl, Rd.nil, by simp⟩
      · cases e5
        have hlm : len ≤ m := by rw [hm]; split <;> omega
        obtain ⟨rows, hr1, hr2, hr3⟩ := rows_of (show Try.prog.cellsOf 5 = 1 by kernel_rfl) (by omega) hlm hel
        obtain ⟨bs, hb1, hb2⟩ := bytes_of rows fun r hr => by
          obtain ⟨i, hi⟩ := List.getElem?_of_mem hr
          exact u8_of (hr2 i r hi).2.2
        have hbl : Rows.uptoBulk y5.1 ≤ k + 1 := by omega
        rw [hd] at hbl
        have hlen := (slice_bulk D hbl).1
        refine ⟨some a, cap, bs, by rw [hb1, hr1], by rw [hb1, hr1, ← hb2]; exact hr3, by omega⟩
    have hlist : ∃ (A7 : Option Addr) (c7 : Nat) (l : List Tm), q7 = .slice A7 (List.length l) c7 ∧ (∃ rows, Rd W W.heap.size 11 A7 l.length rows.flatten ∧ TmsAt W W.heap.size l rows) ∧ l.length ≤ 1048576 := by
      rcases Deep.open_slice Try.underlying22 t7 with ⟨e7, _⟩ | ⟨a, len, cap, m, n7, D, Pl, e7, _, hlc, _, hm, hd, hel⟩
      · cases e7; exact ⟨none, 0, [], rfl, ⟨[], Rd.nil, by simp [TmsAt]⟩, by simp⟩
      · cases e7
        have hlm : len ≤ m := by rw [hm]; split <;> omega
        obtain ⟨rows, hr1, hr2, hr3⟩ := rows_of (show Try.prog.cellsOf 31 = 11 by kernel_rfl) (by omega) hlm hel
        have hbl : Rows.uptoBulk y7.1 ≤ k + 1 := by omega
        rw [hd] at hbl
        obtain ⟨hlen, hD⟩ := slice_bulk D hbl
        obtain ⟨ts, ht1, ht2⟩ := terms_of (W := W) (B := W.heap.size) rows fun r hr => by
          obtain ⟨i, hi⟩ := List.getElem?_of_mem hr
          obtain ⟨h1, _, h2⟩ := hr2 i r hi
          have := hD i h1
          exact ih (by omega) _ _ _ _ h2 (by omega)
        exact ⟨some a, cap, ts, by rw [ht1, hr1], ⟨rows, by rw [ht1, hr1]; exact hr3, ht2⟩, by omega⟩
    have hdict : ∃ (A8 : Option Addr) (c8 : Nat) (ns : List ByteArray) (vs : List Tm), q8 = .slice A8 (List.length vs) c8 ∧ List.length ns = List.length vs ∧ (∃ rows, Rd W W.heap.size 12 A8 vs.length (entRows ns rows) ∧ TmsAt W W.heap.size vs rows) ∧ vs.length ≤ 1048576 ∧ ∀ n ∈ ns, n.size ≤ 1048576 := by
      rcases Deep.open_slice Try.underlying29 t8 with ⟨e8, _⟩ | ⟨a, len, cap, m, n8, D, Pl, e8, _, hlc, _, hm, hd, hel⟩
      · cases e8; exact ⟨none, 0, [], [], rfl, rfl, ⟨[], by simpa [entRows] using Rd.nil, by simp [TmsAt]⟩, by simp, by simp⟩
      · cases e8
        have hlm : len ≤ m := by rw [hm]; split <;> omega
        obtain ⟨rows, hr1, hr2, hr3⟩ := rows_of (show Try.prog.cellsOf 110 = 12 by kernel_rfl) (by omega) hlm hel
        have hbl : Rows.uptoBulk y8.1 ≤ k + 1 := by omega
        rw [hd] at hbl
        obtain ⟨hlen, hD⟩ := slice_bulk D hbl
        obtain ⟨ns, qs, ts, ht1, ht2, ht3, ht4, ht5⟩ := entries_of (W := W) (B := W.heap.size) rows fun r hr => by
          obtain ⟨i, hi⟩ := List.getElem?_of_mem hr
          obtain ⟨h1, hrl, h2⟩ := hr2 i r hi
          have hDi := hD i h1
          obtain ⟨x0, x1, n9, hx, _, u0, u1⟩ := trod_struct2 Try.underlying110 h2
          dsimp only at u0 u1
          rw [show Try.prog.cellsOf 9 = 1 by kernel_rfl] at u0
          rw [show Try.prog.cellsOf 31 = 11 by kernel_rfl] at u1
          simp only [Prod.mk.injEq] at hx
          rw [hx.1] at hDi
          simp only [Rows.uptoBulk, Rows.uptoBulkAll] at hDi
          match r, hrl with
          | v :: q, hrl =>
            have hql : q.length = 11 := by simpa using hrl
            obtain ⟨s, es, ds, _⟩ := DataW.trod_string Try.underlying9 u0
            have es : v = .string s := by simpa using es
            have u1 : DataW.trod enc Try.prog W 0 sp held n9 31 q = some x1 := by rwa [List.drop_succ_cons, List.drop_zero, List.take_of_length_le (by omega)] at u1
            obtain ⟨t, ht⟩ := ih (by omega) _ _ _ _ u1 (by omega)
            exact ⟨s, q, t, by rw [es], string_small (H := H) (k := 1048576) (by have := congrArg Prod.fst ds; dsimp only at this; rw [← this]; omega), ht⟩
        exact ⟨some a, cap, ns, ts, by rw [ht2, hr1], ht1, ⟨qs, by rw [ht2, hr1, ← ht3]; exact hr3, ht4⟩, by omega, ht5⟩
    obtain ⟨A5, c5, bs, rfl, hbr, hbl⟩ := hbytes
    obtain ⟨A7, c7, l, rfl, hlr, hll⟩ := hlist
    obtain ⟨A8, c8, ns, vs, rfl, hnv, hdr, hvl, hns⟩ := hdict
    refine ⟨.mk z0 z1 z2 z3 z4 bs z6 l ns vs z9 z10, ?_⟩
    simp only [TmAt]
    exact ⟨A5, c5, A7, c7, A8, c8, rfl, hbr, hlr, hnv, hdr, ⟨h4, hbl, hll, hvl, h9, hns⟩, w0, w2, w3, w6, w10⟩

theorem list_of {fuel : Nat} {v : Value} {d : DataW H} {ps : List MemPlace} (h : DataW.trod enc Try.prog W 0 sp held fuel 22 [v] = some (d, ps)) (hb : Rows.uptoBulk d ≤ 1048576) :
    ∃ (l : List Tm) (rows : List (List Value)) (A : Option Addr) (cap : Nat), v = .slice A l.length cap ∧ Rd W W.heap.size 11 A l.length rows.flatten ∧ TmsAt W W.heap.size l rows ∧ l.length ≤ 1048576 := by
  rcases Deep.open_slice Try.underlying22 h with ⟨e, _⟩ | ⟨a, len, cap, m, n7, D, Pl, e, _, hlc, _, hm, hd, hel⟩
  · cases e; exact ⟨[], [], none, 0, rfl, Rd.nil, by simp [TmsAt], by simp⟩
  · cases e
    have hlm : len ≤ m := by rw [hm]; split <;> omega
    obtain ⟨rows, hr1, hr2, hr3⟩ := rows_of (show Try.prog.cellsOf 31 = 11 by kernel_rfl) (by omega) hlm hel
    simp only [Prod.mk.injEq] at hd
    rw [hd.1] at hb
    obtain ⟨hlen, hD⟩ := slice_bulk D hb
    obtain ⟨ts, ht1, ht2⟩ := terms_of (W := W) (B := W.heap.size) rows fun r hr => by
      obtain ⟨i, hi⟩ := List.getElem?_of_mem hr
      obtain ⟨h1, _, h2⟩ := hr2 i r hi
      have := hD i h1
      exact term_of 1048576 (Nat.le_refl _) _ _ _ _ h2 (by omega)
    exact ⟨ts, rows, some a, cap, by rw [ht1, hr1], by rw [ht1, hr1]; exact hr3, ht2, by omega⟩
end
end Go.Proofs.Ythanmakakcmkeaa
