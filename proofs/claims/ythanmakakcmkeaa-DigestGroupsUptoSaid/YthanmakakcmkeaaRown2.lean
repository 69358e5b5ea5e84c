/- tenonref01.own, whole. -/
import Derived.Test.YthanmakakcmkeaaRown
import Derived.Test.YthanmakakcmkeaaBuilt2
namespace Go.Proofs.Ythanmakakcmkeaa
open Go.RowKit

theorem own_alien {x : V} (h : x = .alien) (n deep : Int) : ownE x n deep = 6 := by subst h; unfold ownE; split <;> rfl
theorem own_nothing {x : V} (h : x = .nothing) (n deep : Int) : ownE x n deep = 7 := by subst h; unfold ownE; split <;> rfl
theorem own_many {x : V} {n deep : Int} (h : 16384 ≤ n ∨ 64 < deep) (h1 : x ≠ .alien) (h2 : x ≠ .nothing) : ownE x n deep = 2 := by
  unfold ownE; rw [if_pos h]; cases x <;> simp [ownX] at h1 h2 ⊢
theorem own_few {x : V} {n deep : Int} (h : ¬ (16384 ≤ n ∨ 64 < deep)) : ownE x n deep = ownS x := by unfold ownE; rw [if_neg h]

theorem entry_names {w : World} {B : Nat} {q off n : Nat} {ns : List ByteArray} {rows : List (List Value)} (hr : Rd w B 12 (some ⟨q, off, none⟩) n (entRows ns rows)) (h11 : ∀ r ∈ rows, r.length = 11) (hl : ns.length = rows.length) (hn : ns.length = n) :
    ∀ j, j < n → w.cell? ⟨q, off + j * 12, none⟩ = some (.string (ns.getD j ByteArray.empty)) := by
  intro j hj
  obtain ⟨b, o, he, _, hc⟩ := hr.2 (by omega)
  simp only [Option.some.injEq, Addr.mk.injEq, and_true] at he
  obtain ⟨rfl, rfl⟩ := he
  have h1 : ns[j]? = some (ns.getD j ByteArray.empty) := by simp [List.getElem?_eq_getElem (show j < ns.length by omega)]
  have h2 : rows[j]? = some rows[j] := List.getElem?_eq_getElem (by omega)
  rw [hc (j * 12) (by omega), ← Nat.add_zero (j * 12), entRows_get ns rows h11 hl j _ _ h1 h2 0 (by omega)]
  rfl

theorem build_kind {k : Int} (b : Bool) (i : Int) (f : Nat) (s : ByteArray) (bs : List UInt8) (r : Int) (l : List Tm) (ns : List ByteArray) (vs : List Tm) (c : ByteArray) (v : Int) (h1 : 1 ≤ k) (h2 : k ≤ 10) : build (.mk k b i f s bs r l ns vs c v) ≠ .alien ∧ build (.mk k b i f s bs r l ns vs c v) ≠ .nothing := by
  have : k = 1 ∨ k = 2 ∨ k = 3 ∨ k = 4 ∨ k = 5 ∨ k = 6 ∨ k = 7 ∨ k = 8 ∨ k = 9 ∨ k = 10 := by omega
  rcases this with rfl | rfl | rfl | rfl | rfl | rfl | rfl | rfl | rfl | rfl <;> simp [build]

theorem rown_any (t : Tm) (cs : List Value) (w : World) (B : Nat) (n deep : Int) (hB : B ≤ w.heap.size) (h : TmAt w B t cs) : Calls Try.prog 72 #[.agg cs.toArray, .int .i64 n, .int .i64 deep] w (Gives (ownE (build t) n deep) w) := by
  obtain ⟨k, b, i, f, s, bs, r, l, ns, vs, c, v⟩ := t
  simp only [TmAt] at h
  obtain ⟨A5, c5, A7, c7, A8, c8, rfl, h5, ⟨rows7, h7, h7'⟩, hns, ⟨rows8, h8, h8'⟩, ⟨b1, b2, b3, b4, b5, b6⟩, w1, w2, w3, w4, w5⟩ := h
  by_cases k11 : k = 11
  · subst k11
    rw [own_nothing (by simp [build])]
    exact rown_nothing b i f s A5 _ c5 r A7 _ c7 A8 _ c8 c v n deep w
  by_cases klow : k < 1
  · rw [own_alien (by simp [build, show k ≠ 1 by omega, show k ≠ 2 by omega, show k ≠ 3 by omega, show k ≠ 4 by omega, show k ≠ 5 by omega, show k ≠ 6 by omega, show k ≠ 7 by omega, show k ≠ 8 by omega, show k ≠ 9 by omega, show k ≠ 10 by omega, show k ≠ 11 by omega])]
    exact rown_low k b i f s A5 _ c5 r A7 _ c7 A8 _ c8 c v n deep w (by simpa using k11) (by simpa using klow)
  by_cases khigh : 10 < k
  · rw [own_alien (by simp [build, show k ≠ 1 by omega, show k ≠ 2 by omega, show k ≠ 3 by omega, show k ≠ 4 by omega, show k ≠ 5 by omega, show k ≠ 6 by omega, show k ≠ 7 by omega, show k ≠ 8 by omega, show k ≠ 9 by omega, show k ≠ 10 by omega, show k ≠ 11 by omega])]
    exact rown_high k b i f s A5 _ c5 r A7 _ c7 A8 _ c8 c v n deep w (by simpa using k11) (by simpa using klow) (by simpa using khigh)
  have hkk := build_kind b i f s bs r l ns vs c v (show 1 ≤ k by omega) (show k ≤ 10 by omega)
  by_cases o1 : 16384 ≤ n
  · rw [own_many (Or.inl o1) hkk.1 hkk.2]
    exact rown_over1 k b i f s A5 _ c5 r A7 _ c7 A8 _ c8 c v n deep w (by simpa using k11) (by simpa using klow) (by simpa using khigh) (by simpa using o1)
  by_cases o2 : 64 < deep
  · rw [own_many (Or.inr o2) hkk.1 hkk.2]
    exact rown_over2 k b i f s A5 _ c5 r A7 _ c7 A8 _ c8 c v n deep w (by simpa using k11) (by simpa using klow) (by simpa using khigh) (by simpa using o1) (by simpa using o2)
  rw [own_few (by omega)]
  have h4 : decide (16384 ≤ n) = false := by simpa using o1
  have h5' : decide (64 < deep) = false := by simpa using o2
  have hrn : ∀ (x : Bool), nameOk c = x → ∀ w, Calls Try.prog 106 #[.string c] w (fun e w' => e = .returned (.bool x) ∧ w' = w) := fun x hx w => hx ▸ rname_any c w
  have h11 : ∀ r ∈ rows8, r.length = 11 := fun r hr => by
    obtain ⟨j, hj, rfl⟩ := List.getElem_of_mem hr
    have hg := TmsAt.get vs h8'
    obtain ⟨r', e, h'⟩ := hg.2 j vs[j] (List.getElem?_eq_getElem (by omega))
    rw [List.getElem?_eq_getElem hj] at e
    injection e with e
    rw [e]; exact TmAt.len _ h'
  have hr8 : rows8.length = vs.length := (TmsAt.get vs h8').1
  have hblen : (builds vs).length = vs.length := by simp [builds_map]
  have : k = 1 ∨ k = 2 ∨ k = 3 ∨ k = 4 ∨ k = 5 ∨ k = 6 ∨ k = 7 ∨ k = 8 ∨ k = 9 ∨ k = 10 := by omega
  rcases this with rfl | rfl | rfl | rfl | rfl | rfl | rfl | rfl | rfl | rfl
  · exact rown_k1 b i f s A5 _ c5 r A7 _ c7 A8 _ c8 c v n deep w h4 h5'
  · exact rown_k2 b i f s A5 _ c5 r A7 _ c7 A8 _ c8 c v n deep w h4 h5'
  · exact rown_k3 b i f s A5 _ c5 r A7 _ c7 A8 _ c8 c v n deep w h4 h5'
  · exact rown_k4 b i f s A5 _ c5 r A7 _ c7 A8 _ c8 c v n deep w h4 h5'
  · by_cases hs : s.size > 65536
    · have e : ownS (build (.mk 5 b i f s bs r l ns vs c v)) = 2 := by simp [build, ownS, hs]
      rw [e]; exact rown_k5_long b i f s A5 _ c5 r A7 _ c7 A8 _ c8 c v n deep w h4 h5' (by simp; omega)
    · have e : ownS (build (.mk 5 b i f s bs r l ns vs c v)) = 0 := by simp [build, ownS]; omega
      rw [e]; exact rown_k5 b i f s A5 _ c5 r A7 _ c7 A8 _ c8 c v n deep w h4 h5' (by simp; omega)
  · by_cases hs : bs.length > 65536
    · have e : ownS (build (.mk 6 b i f s bs r l ns vs c v)) = 2 := by simp [build, ownS, hs]
      rw [e]; exact rown_k6_long b i f s A5 _ c5 r A7 _ c7 A8 _ c8 c v n deep w h4 h5' (by simp; omega)
    · have e : ownS (build (.mk 6 b i f s bs r l ns vs c v)) = 0 := by simp [build, ownS]; omega
      rw [e]; exact rown_k6 b i f s A5 _ c5 r A7 _ c7 A8 _ c8 c v n deep w h4 h5' (by simp; omega)
  · exact rown_k7 b i f s A5 _ c5 r A7 _ c7 A8 _ c8 c v n deep w h4 h5'
  · have hl : (builds l).length = l.length := by simp [builds_map]
    by_cases hs : l.length > 4096
    · have e : ownS (build (.mk 8 b i f s bs r l ns vs c v)) = 2 := by simp [build, ownS, hl, hs]
      rw [e]; exact rown_k8_long b i f s A5 _ c5 r A7 _ c7 A8 _ c8 c v n deep w h4 h5' (by simp; omega)
    · have e : ownS (build (.mk 8 b i f s bs r l ns vs c v)) = 0 := by simp [build, ownS, hl]; omega
      rw [e]; exact rown_k8 b i f s A5 _ c5 r A7 _ c7 A8 _ c8 c v n deep w h4 h5' (by simp; omega)
  · have e : ownS (build (.mk 9 b i f s bs r l ns vs c v)) = fieldsE ns := by simp [build, ownS]
    rw [e]
    by_cases hs : vs.length > 4096
    · rw [fieldsE, if_pos (by omega)]
      have hcut : ∀ (c v), Calls Try.prog 72 #[.agg #[.int .i64 9, .bool b, .int .i64 i, .float .f64 f, .string s, .slice A5 bs.length c5, .int .u64 r, .slice A7 l.length c7, .slice A8 vs.length c8, .string c, .int .i64 v], .int .i64 n, .int .i64 deep] w (Gives 2 w) := fun c v => rown_nine_long b i f s A5 _ c5 r A7 _ c7 A8 _ c8 c v n deep w h4 h5' (by simp; omega)
      exact hcut c v
    · by_cases h0 : vs.length = 0
      · rw [h0]
        have : fieldsE ns = 0 := by have : ns = [] := List.eq_nil_of_length_eq_zero (by omega); subst this; simp [fieldsE, namesOk]
        rw [this]; exact rown_nine_none b i f s A5 _ c5 r A7 _ c7 A8 c8 c v n deep w h4 h5'
      · obtain ⟨q, off, rfl, hq, _⟩ := h8.2 (by omega)
        exact rown_loop9 b i f s A5 _ c5 r A7 _ c7 q off _ c8 c v n deep w h4 h5' (by simp; omega) (by omega) ns hns (entry_names h8 h11 (by omega) hns) _ (by simp only [fieldsE]; rw [if_neg (show ¬ ns.length > 4096 by omega)])
  · by_cases hc : nameOk c = true
    · by_cases hv1 : v < 1
      · have e : ownS (build (.mk 10 b i f s bs r l ns vs c v)) = 1 := by simp [build, ownS, hc, hv1]
        rw [e]; exact rown_k10_low b i f s A5 _ c5 r A7 _ c7 A8 _ c8 c v n deep w h4 h5' (hrn true hc) (by simpa using hv1)
      by_cases hv2 : 1000 < v
      · have e : ownS (build (.mk 10 b i f s bs r l ns vs c v)) = 1 := by simp [build, ownS, hc, hv2]
        rw [e]; exact rown_k10_high b i f s A5 _ c5 r A7 _ c7 A8 _ c8 c v n deep w h4 h5' (hrn true hc) (by simpa using hv1) (by simpa using hv2)
      have e : ownS (build (.mk 10 b i f s bs r l ns vs c v)) = fieldsE ns := by simp [build, ownS, hc, hv1, hv2]
      rw [e]
      by_cases hs : vs.length > 4096
      · rw [fieldsE, if_pos (by omega)]
        exact rown_fields_long 10 b i f s A5 _ c5 r A7 _ c7 A8 _ c8 c v n deep w (Or.inr ⟨rfl, by simpa using hv1, by simpa using hv2⟩) h4 h5' (hrn true hc) (by simp; omega)
      · by_cases h0 : vs.length = 0
        · rw [h0]
          have : fieldsE ns = 0 := by have : ns = [] := List.eq_nil_of_length_eq_zero (by omega); subst this; simp [fieldsE, namesOk]
          rw [this]; exact rown_fields_none 10 b i f s A5 _ c5 r A7 _ c7 A8 c8 c v n deep w (Or.inr ⟨rfl, by simpa using hv1, by simpa using hv2⟩) h4 h5' (hrn true hc)
        · obtain ⟨q, off, rfl, hq, _⟩ := h8.2 (by omega)
          exact rown_loop10 b i f s A5 _ c5 r A7 _ c7 q off _ c8 c v n deep w (by simpa using hv1) (by simpa using hv2) (hrn true hc) h4 h5' (by simp; omega) (by omega) ns hns (entry_names h8 h11 (by omega) hns) _ (by simp only [fieldsE]; rw [if_neg (show ¬ ns.length > 4096 by omega)])
    · have e : ownS (build (.mk 10 b i f s bs r l ns vs c v)) = 8 := by simp [build, ownS, hc]
      rw [e]; exact rown_k10_name b i f s A5 _ c5 r A7 _ c7 A8 _ c8 c v n deep w h4 h5' (hrn false (Bool.eq_false_iff.2 hc))
end Go.Proofs.Ythanmakakcmkeaa
