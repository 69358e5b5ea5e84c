/- tenonmake.Spoil: what a value holds is written over, and nothing else. -/
import Derived.Test.YthanmakakcmkeaaSpoil
namespace Go.Proofs.Ythanmakakcmkeaa
open Go.RowKit

theorem Row.set {w : World} {e size g cap n : Nat} {xs : List Value} (h : Row w e size g cap n xs) (i : Nat) (u : Value) : Row (w.setCell ⟨g, i, none⟩ u) e size g cap n (xs.set i u) := by
  obtain ⟨h1, h2, h3, cur, h4, h5, h6⟩ := h
  refine ⟨by simpa using h1, h2, h3, cur.setIfInBounds i u, ?_, by simpa using h5, ?_⟩
  · simp [World.setCell, Array.getElem?_modify, h4]
  · rw [Array.toList_setIfInBounds, List.take_set, h6]
theorem Row.room {w : World} {e size g cap n : Nat} {xs : List Value} (h : Row w e size g cap n xs) {j : Nat} (hj : j < n * size) : ∃ v, xs[j]? = some v ∧ w.cell? ⟨g, j, none⟩ = some v := by
  have hl : j < xs.length := by rw [h.1]; exact hj
  exact ⟨xs[j], by simp, by rw [h.cell j hj]; simp⟩

def Spoiled (S : List Nat) (w : World) (e : Ending) (w' : World) : Prop := e = .returned (.tuple #[]) ∧ Fr S w w'
def SpoilAt (x : V) : Prop := ∀ (v : Value) (S : List Nat) (w : World), VAt w x v S → S.Nodup → Calls Try.prog 11 #[v] w (Spoiled S w)

theorem spoil_nil : SpoilAt (.nil) := by
  intro v S w h hn
  obtain ⟨rfl, rfl⟩ := (by simpa only [VAt] using h)
  obtain ⟨a1, a2, a3, a4, a5, a6, a7, a8, a9⟩ := tas_nil
  clear h hn
  go_enter Try.func11, Try.ntmps11
  go_wp2
  go_end0
  exact ⟨rfl, Fr.refl _ _⟩
theorem spoil_bool (b : Bool) : SpoilAt (.bool b) := by
  intro v S w h hn
  obtain ⟨rfl, rfl⟩ := (by simpa only [VAt] using h)
  obtain ⟨a1, a2, a3, a4, a5, a6, a7, a8, a9⟩ := tas_bool
  clear h hn
  go_enter Try.func11, Try.ntmps11
  go_wp2
  go_end0
  exact ⟨rfl, Fr.refl _ _⟩
theorem spoil_int (b : Int) : SpoilAt (.int b) := by
  intro v S w h hn
  obtain ⟨rfl, rfl, _⟩ := (by simpa only [VAt] using h)
  obtain ⟨a1, a2, a3, a4, a5, a6, a7, a8, a9⟩ := tas_int
  clear h hn
  go_enter Try.func11, Try.ntmps11
  go_wp2
  go_end0
  exact ⟨rfl, Fr.refl _ _⟩
theorem spoil_float (b : Nat) : SpoilAt (.float b) := by
  intro v S w h hn
  obtain ⟨rfl, rfl, _⟩ := (by simpa only [VAt] using h)
  obtain ⟨a1, a2, a3, a4, a5, a6, a7, a8, a9⟩ := tas_float
  clear h hn
  go_enter Try.func11, Try.ntmps11
  go_wp2
  go_end0
  exact ⟨rfl, Fr.refl _ _⟩
theorem spoil_text (b : ByteArray) : SpoilAt (.text b) := by
  intro v S w h hn
  obtain ⟨rfl, rfl, _⟩ := (by simpa only [VAt] using h)
  obtain ⟨a1, a2, a3, a4, a5, a6, a7, a8, a9⟩ := tas_text
  clear h hn
  go_enter Try.func11, Try.ntmps11
  go_wp2
  go_end0
  exact ⟨rfl, Fr.refl _ _⟩
theorem spoil_ref (b : Int) : SpoilAt (.ref b) := by
  intro v S w h hn
  obtain ⟨rfl, rfl, _⟩ := (by simpa only [VAt] using h)
  obtain ⟨a1, a2, a3, a4, a5, a6, a7, a8, a9⟩ := tas_ref
  clear h hn
  go_enter Try.func11, Try.ntmps11
  go_wp2
  go_end0
  exact ⟨rfl, Fr.refl _ _⟩
theorem spoil_nothing : SpoilAt .nothing := by
  intro v S w h hn
  obtain ⟨rfl, rfl⟩ := (by simpa only [VAt] using h)
  obtain ⟨a1, a2, a3, a4, a5, a6, a7, a8, a9⟩ := tas_rec
  clear h hn
  go_enter Try.func11, Try.ntmps11
  go_wp2
  go_end0
  exact ⟨rfl, Fr.refl _ _⟩
theorem spoil_alien : SpoilAt .alien := by
  intro v S w h hn
  obtain ⟨T, u, rfl, hT, rfl⟩ := (by simpa only [VAt] using h)
  obtain ⟨a1, a2, a3, a4, a5, a6, a7, a8, a9⟩ := tas_alien hT
  clear h hn hT
  go_enter Try.func11, Try.ntmps11
  go_wp2
  go_end0
  exact ⟨rfl, Fr.refl _ _⟩

theorem Fr.trans2 {S T : List Nat} {a b c : World} (h : Fr S a b) (k : Fr T b c) (hT : ∀ i ∈ T, i ∈ S ∨ a.heap.size ≤ i) : Fr S a c :=
  ⟨k.os.trans h.os, k.tape.trans h.tape, k.output.trans h.output, Nat.le_trans h.size k.size, fun i hi hS => (k.block i (Nat.lt_of_lt_of_le hi h.size) (fun hm => by rcases hT i hm with h1 | h1; exact hS h1; omega)).trans (h.block i hi hS)⟩
/-- a list of values from number k on, in memory of its own -/
def Left (wr : World) (xs : List V) (vs : List Value) (Ss : List Nat) (k : Nat) : Prop := ∃ S1 S2, Ss = S1 ++ S2 ∧ VsAt wr (xs.drop k) (vs.drop k) S2

theorem Left.next {wr : World} {xs : List V} {vs : List Value} {Ss : List Nat} {k : Nat} (h : Left wr xs vs Ss k) (hn : Ss.Nodup) (hk : k < xs.length) : ∃ v T, vs[k]? = some v ∧ VAt wr xs[k] v T ∧ T.Nodup ∧ (∀ b ∈ T, b ∈ Ss) ∧
    ∀ (L : List Nat) (w' : World), Fr L wr w' → (∀ b ∈ L, b ∈ T ∨ b ∉ Ss) → Left w' xs vs Ss (k + 1) := by
  obtain ⟨S1, S2, rfl, hv⟩ := h
  rw [List.drop_eq_getElem_cons hk] at hv
  simp only [VsAt] at hv
  obtain ⟨v, vr, T1, T2, e, rfl, h1, h2⟩ := hv
  have hkv : k < vs.length := by
    rcases Nat.lt_or_ge k vs.length with h | h
    · exact h
    · rw [List.drop_of_length_le h] at e; cases e
  rw [List.drop_eq_getElem_cons hkv] at e
  obtain ⟨rfl, rfl⟩ := List.cons.inj e
  have hn1 := List.nodup_append.1 hn
  have hn2 := List.nodup_append.1 hn1.2.1
  refine ⟨vs[k], T1, by simp, h1, hn2.1, fun b hb => by simp [hb], fun L w' hf hL => ⟨S1 ++ T1, T2, by simp, h2.fr hf fun b hb hm => ?_⟩⟩
  rcases hL b hm with h | h
  · exact hn2.2.2 b h b hb rfl
  · exact h (by simp [hb])

set_option maxRecDepth 100000 in
set_option maxHeartbeats 4000000 in
theorem spoil_list (xs : List V) (ih : ∀ x ∈ xs, SpoilAt x) : SpoilAt (.list xs) := by
  intro v S w h hn
  obtain ⟨g, cap, vs, Ss, rfl, hr, hvs, rfl, hl⟩ := (by simpa only [VAt] using h)
  obtain ⟨a1, a2, a3, a4, a5, a6, a7, a8, a9⟩ := tas_list
  have hgl := hr.lt
  have hnd := List.nodup_cons.1 hn
  have HR := Lib.hid hr
  have HV := Lib.hid hvs
  have HN := Lib.hid hnd
  have HI := Lib.hid ih
  clear h hr hvs hn hnd ih
  go_enter Try.func11, Try.ntmps11
  go_wp2
  go_loopw [6] (fun v6 wr => ∃ (k : Nat) (us : List Value), k ≤ xs.length ∧ v6 = .int .i64 k ∧ Row wr 20 1 g cap xs.length us ∧ us.drop k = vs.drop k ∧ Left wr xs vs Ss k ∧ Fr (g :: Ss) w wr) (fun v _ => xs.length - (intOf v).toNat)
  case atStart => exact ⟨0, vs, Nat.zero_le _, rfl, HR.out, rfl, ⟨[], Ss, rfl, by simpa using HV.out⟩, Fr.refl _ _⟩
  case round =>
    obtain ⟨k, us, hk, rfl, hrow, hus, hleft, hfr⟩ := hrel
    have hws := hfr.size
    have HROW := Lib.hid hrow
    have HUS := Lib.hid hus
    have HL := Lib.hid hleft
    have HF := Lib.hid hfr
    clear hrow hus hleft hfr
    have hk0 : (0 : Int) ≤ (k : Int) := Int.natCast_nonneg _
    by_cases hlt : k < xs.length
    · have hk1 : (k : Int) < (xs.length : Int) := by omega
      obtain ⟨x, T, hx, hvx, hTn, hTs, hnext⟩ := HL.out.next HN.out.2 hlt
      obtain ⟨u, hu, hc0⟩ := HROW.out.room (j := k) (by omega)
      have hux : u = x := by
        have e := congrArg (fun l => l[0]?) HUS.out
        simp only [List.getElem?_drop, Nat.add_zero, hu, hx, Option.some.injEq] at e
        exact e
      subst hux
      have hgT : ¬ g ∈ T := fun hm => HN.out.1 (hTs g hm)
      have HC : Hid (Calls Try.prog 11 #[u] wr (Spoiled T wr)) := Lib.hid (HI.out _ (List.getElem_mem hlt) u T wr hvx hTn)
      have HX := Lib.hid hnext
      have HTS := Lib.hid hTs
      clear hx hu hnext hTs hTn
      have hfx := hvx.form
      clear hvx
      rcases hfx with rfl | ⟨T0, x, rfl⟩
      all_goals
        go_wp2_with (first | (go_at_call 11; refine HC.out.mono ?_; rintro e w1 ⟨rfl, hf1⟩; have hrow1 := HROW.out.fr hf1 hgT; obtain ⟨_, _, hc1⟩ := hrow1.room (j := k) (by omega); have hf0 := hrow1.free k; have HROW1 := Lib.hid hrow1; have HF1 := Lib.hid hf1; clear hf1 hrow1))
        go_roundw
        case rel =>
          have hst : Fr [g] w1 (w1.setCell ⟨g, k, none⟩ (.iface 2 (.int .i64 4711))) := (Fr.refl _ _).set (.inl (by simp)) _
          have hall := HF1.out.mono (T := g :: T) (fun b hb => .inl (by simp [hb])) |>.trans (hst.mono (T := g :: T) (fun b hb => .inl (by simp at hb; simp [hb])))
          refine ⟨k + 1, _, by omega, by go_num, HROW1.out.set k _, ?_, HX.out _ _ hall ?_, HF.out.trans (hall.mono (fun b hb => .inl ?_))⟩
          · rw [List.drop_set_of_lt (by omega)]
            have e := congrArg (List.drop 1) HUS.out
            simpa [List.drop_drop, Nat.add_comm] using e
          · intro b hb
            rcases List.mem_cons.1 hb with rfl | hb
            · exact .inr HN.out.1
            · exact .inl hb
          · rcases List.mem_cons.1 hb with rfl | hb
            · simp
            · exact List.mem_cons_of_mem _ (HTS.out b hb)
        case measure => simp [intOf]; omega
    · obtain rfl : k = xs.length := by omega
      go_wp2
      go_loopw [5, 7] (fun v5 v7 wq => ∃ (j g' cap' : Nat) (us : List Value), j ≤ 20 ∧ v7 = .int .i64 j ∧ v5 = .slice (some ⟨g', 0, none⟩) (xs.length + j) cap' ∧ Row wq 20 1 g' cap' (xs.length + j) us ∧ (g' = g ∨ w.heap.size ≤ g') ∧ Fr (g :: Ss) w wq) (fun _ v _ => 20 - (intOf v).toNat)
      case atStart => exact ⟨0, g, cap, us, by omega, rfl, rfl, HROW.out, .inl rfl, HF.out⟩
      case round =>
        obtain ⟨j, g', cap', us', hj, rfl, rfl, hrow', hg', hfr'⟩ := hrel
        have HROW' := Lib.hid hrow'
        have HF' := Lib.hid hfr'
        have HG' := Lib.hid hg'
        have hws' := hfr'.size
        clear hrow' hfr' hg'
        have hj0 : (0 : Int) ≤ (j : Int) := Int.natCast_nonneg _
        by_cases hj20 : j < 20
        · have hj1 : (j : Int) < 20 := by omega
          go_wp2_with (at_builtin; refine wpList_push (by rfl) _ _ _ (by rfl) 20 _ 1 16 Try.underlying75 any_info rfl (by omega) g' cap' (xs.length + j) us' (by rfl) (HROW'.out.alloc _) wr.heap.size 1 1 #[.iface 4 (.bool true)] (by rfl) (by rfl) (Blk.new _ _ _) (by simp [Value.oneCell']) (by omega) (by unfold maxLen; omega) (by omega) ?_; intro g2 cap2 w2 hrow2 hf2 hg2)
          go_roundw
          case rel =>
            have hz := hf2.size
            simp only [World.size_alloc] at hg2
            refine ⟨j + 1, g2, cap2, _, by omega, by go_num, rfl, hrow2, ?_, (HF'.out.alloc _).trans2 hf2 ?_⟩
            · rcases hg2 with rfl | hg2
              · exact HG'.out
              · exact .inr (by omega)
            · intro b hb
              simp only [List.mem_singleton] at hb
              subst hb
              rcases HG'.out with rfl | h
              · exact .inl (by simp)
              · exact .inr h
          case measure => simp [intOf]; omega
        · obtain rfl : j = 20 := by omega
          go_wp2
          go_end0
          exact ⟨rfl, HF'.out⟩

set_option maxRecDepth 100000 in
set_option maxHeartbeats 4000000 in
theorem spoil_bytes (l : List UInt8) : SpoilAt (.bytes l) := by
  intro v S w h hn
  obtain ⟨g, cap, rfl, hr, rfl, hl⟩ := (by simpa only [VAt] using h)
  obtain ⟨a1, a2, a3, a4, a5, a6, a7, a8, a9⟩ := tas_bytes
  have hgl := hr.lt
  have HR := Lib.hid hr
  clear h hr hn
  go_enter Try.func11, Try.ntmps11
  go_wp2
  go_loopw [3] (fun v6 wr => ∃ (k : Nat) (us : List Value), k ≤ l.length ∧ v6 = .int .i64 k ∧ Row wr 5 1 g cap l.length us ∧ (∀ u ∈ us, ∃ c, u = .int .u8 c) ∧ Fr [g] w wr) (fun v _ => l.length - (intOf v).toNat)
  case atStart => exact ⟨0, _, Nat.zero_le _, rfl, HR.out, fun u hu => by obtain ⟨c, _, rfl⟩ := List.mem_map.1 hu; exact ⟨_, rfl⟩, Fr.refl _ _⟩
  case round =>
    obtain ⟨k, us, hk, rfl, hrow, hus, hfr⟩ := hrel
    have hws := hfr.size
    have HROW := Lib.hid hrow
    have HUS := Lib.hid hus
    have HF := Lib.hid hfr
    clear hrow hus hfr
    have hk0 : (0 : Int) ≤ (k : Int) := Int.natCast_nonneg _
    by_cases hlt : k < l.length
    · have hk1 : (k : Int) < (l.length : Int) := by omega
      obtain ⟨u, hu, hc0⟩ := HROW.out.room (j := k) (by omega)
      obtain ⟨c, rfl⟩ := HUS.out u (List.mem_of_getElem? hu)
      have hf0 := HROW.out.free k
      clear hu
      go_wp2
      go_roundw
      case rel =>
        refine ⟨k + 1, _, by omega, by go_num, HROW.out.set k _, ?_, HF.out.set (.inl (by simp)) _⟩
        intro u hu
        rcases List.mem_or_eq_of_mem_set hu with h | rfl
        · exact HUS.out u h
        · exact ⟨_, rfl⟩
      case measure => simp [intOf]; omega
    · obtain rfl : k = l.length := by omega
      go_wp2
      go_loopw [2, 4] (fun v5 v7 wq => ∃ (j g' cap' : Nat) (us : List Value), j ≤ 20 ∧ v7 = .int .i64 j ∧ v5 = .slice (some ⟨g', 0, none⟩) (l.length + j) cap' ∧ Row wq 5 1 g' cap' (l.length + j) us ∧ (g' = g ∨ w.heap.size ≤ g') ∧ Fr [g] w wq) (fun _ v _ => 20 - (intOf v).toNat)
      case atStart => exact ⟨0, g, cap, us, by omega, rfl, rfl, HROW.out, .inl rfl, HF.out⟩
      case round =>
        obtain ⟨j, g', cap', us', hj, rfl, rfl, hrow', hg', hfr'⟩ := hrel
        have HROW' := Lib.hid hrow'
        have HF' := Lib.hid hfr'
        have HG' := Lib.hid hg'
        have hws' := hfr'.size
        clear hrow' hfr' hg'
        have hj0 : (0 : Int) ≤ (j : Int) := Int.natCast_nonneg _
        by_cases hj20 : j < 20
        · have hj1 : (j : Int) < 20 := by omega
          go_wp2_with (at_builtin; refine wpList_push (by rfl) _ _ _ (by rfl) 5 _ 1 1 Try.underlying26 u8_info rfl (by omega) g' cap' (l.length + j) us' (by rfl) (HROW'.out.alloc _) wr.heap.size 1 1 #[.int .u8 7] (by rfl) (by rfl) (Blk.new _ _ _) (by simp [Value.oneCell']) (by omega) (by unfold maxLen; omega) (by omega) ?_; intro g2 cap2 w2 hrow2 hf2 hg2)
          go_roundw
          case rel =>
            have hz := hf2.size
            simp only [World.size_alloc] at hg2
            refine ⟨j + 1, g2, cap2, _, by omega, by go_num, rfl, hrow2, ?_, (HF'.out.alloc _).trans2 hf2 ?_⟩
            · rcases hg2 with rfl | hg2
              · exact HG'.out
              · exact .inr (by omega)
            · intro b hb
              simp only [List.mem_singleton] at hb
              subst hb
              rcases HG'.out with rfl | h
              · exact .inl (by simp)
              · exact .inr h
          case measure => simp [intOf]; omega
        · obtain rfl : j = 20 := by omega
          go_wp2
          go_end0
          exact ⟨rfl, HF'.out⟩

theorem flds_len : ∀ {ns : List ByteArray} {vs : List Value}, ns.length = vs.length → (fldCells ns vs).length = 2 * vs.length
  | [], [], _ => rfl
  | n :: ns, v :: vs, h => by simp at h; simp [fldCells, flds_len h]; omega
  | [], _ :: _, h => by simp at h
  | _ :: _, [], h => by simp at h
theorem flds_val : ∀ {ns : List ByteArray} {vs : List Value} {k : Nat} {v : Value}, ns.length = vs.length → vs[k]? = some v → (fldCells ns vs)[2 * k + 1]? = some v
  | n :: ns, u :: vs, 0, v, _, h => by simpa [fldCells] using h
  | n :: ns, u :: vs, k + 1, v, hl, h => by
    have := flds_val (ns := ns) (vs := vs) (k := k) (v := v) (by simpa using hl) (by simpa using h)
    rw [show 2 * (k + 1) + 1 = 2 * k + 1 + 1 + 1 by omega]
    simpa [fldCells] using this
  | [], _ :: _, _, _, h, _ => by simp at h
  | [], [], _, _, _, h => by simp at h
  | _ :: _, [], _, _, h, _ => by simp at h

set_option maxRecDepth 100000 in
set_option maxHeartbeats 4000000 in
theorem spoilt_any (ns : List ByteArray) (xs : List V) (ih : ∀ x ∈ xs, SpoilAt x) (g cap : Nat) (vs : List Value) (Ss : List Nat) (w : World) (hr : Row w 112 2 g cap xs.length (fldCells ns vs)) (hvs : VsAt w xs vs Ss) (hns : ns.length = xs.length) (hl : xs.length ≤ 1048576) (hn : (g :: Ss).Nodup) :
    Calls Try.prog 39 #[.slice (some ⟨g, 0, none⟩) xs.length cap] w (Spoiled (g :: Ss) w) := by
  have hgl := hr.lt
  have hnd := List.nodup_cons.1 hn
  have HR := Lib.hid hr
  have HV := Lib.hid hvs
  have HN := Lib.hid hnd
  have HI := Lib.hid ih
  have HL0 : Hid (ns.length = vs.length) := Lib.hid (by rw [hns, VsAt.length xs hvs])
  clear hr hvs hn hnd ih hns
  go_enter Try.func39, Try.ntmps39
  go_wp2
  go_loopw [2] (fun v6 wr => ∃ (k : Nat) (us : List Value), k ≤ xs.length ∧ v6 = .int .i64 k ∧ Row wr 112 2 g cap xs.length us ∧ us.drop (2 * k) = (fldCells ns vs).drop (2 * k) ∧ Left wr xs vs Ss k ∧ Fr (g :: Ss) w wr) (fun v _ => xs.length - (intOf v).toNat)
  case atStart => exact ⟨0, _, Nat.zero_le _, rfl, HR.out, rfl, ⟨[], Ss, rfl, by simpa using HV.out⟩, Fr.refl _ _⟩
  case round =>
    obtain ⟨k, us, hk, rfl, hrow, hus, hleft, hfr⟩ := hrel
    have hws := hfr.size
    have HROW := Lib.hid hrow
    have HUS := Lib.hid hus
    have HL := Lib.hid hleft
    have HF := Lib.hid hfr
    clear hrow hus hleft hfr
    have hk0 : (0 : Int) ≤ (k : Int) := Int.natCast_nonneg _
    by_cases hlt : k < xs.length
    · have hk1 : (k : Int) < (xs.length : Int) := by omega
      obtain ⟨x, T, hx, hvx, hTn, hTs, hnext⟩ := HL.out.next HN.out.2 hlt
      obtain ⟨u, hu, hc0⟩ := HROW.out.room (j := k * 2 + 1) (by omega)
      have hux : u = x := by
        have e := congrArg (fun l => l[1]?) HUS.out
        simp only [List.getElem?_drop] at e
        rw [flds_val HL0.out hx, show 2 * k + 1 = k * 2 + 1 by omega, hu] at e
        exact Option.some.inj e
      subst hux
      have hgT : ¬ g ∈ T := fun hm => HN.out.1 (hTs g hm)
      have HC : Hid (Calls Try.prog 11 #[u] wr (Spoiled T wr)) := Lib.hid (HI.out _ (List.getElem_mem hlt) u T wr hvx hTn)
      have HX := Lib.hid hnext
      have HTS := Lib.hid hTs
      clear hx hu hnext hTs hTn
      have hfx := hvx.form
      clear hvx
      rcases hfx with rfl | ⟨T0, x, rfl⟩
      all_goals
        go_wp2_with (first | (go_at_call 11; refine HC.out.mono ?_; rintro e w1 ⟨rfl, hf1⟩; have hrow1 := HROW.out.fr hf1 hgT; obtain ⟨_, _, hc1⟩ := hrow1.room (j := k * 2) (by omega); obtain ⟨_, _, hc2⟩ := hrow1.room (j := k * 2 + 1) (by omega); have hf0 := hrow1.free (k * 2); have hf9 := hrow1.free (k * 2 + 1); have HROW1 := Lib.hid hrow1; have HF1 := Lib.hid hf1; clear hf1 hrow1))
        go_roundw
        case rel =>
          have hst : Fr [g] w1 ((w1.setCell ⟨g, k * 2, none⟩ (.string { data := #[115, 112, 111, 105, 108, 116] })).setCell ⟨g, k * 2 + 1, none⟩ .nilIface) := ((Fr.refl _ _).set (.inl (by simp)) _).set (.inl (by simp)) _
          have hall := HF1.out.mono (T := g :: T) (fun b hb => .inl (by simp [hb])) |>.trans (hst.mono (T := g :: T) (fun b hb => .inl (by simp at hb; simp [hb])))
          refine ⟨k + 1, _, by omega, by go_num, (HROW1.out.set (k * 2) _).set (k * 2 + 1) _, ?_, HX.out _ _ hall ?_, HF.out.trans (hall.mono (fun b hb => .inl ?_))⟩
          · rw [List.drop_set_of_lt (by omega), List.drop_set_of_lt (by omega)]
            have e := congrArg (List.drop 2) HUS.out
            rw [List.drop_drop, List.drop_drop] at e
            rw [show 2 * (k + 1) = 2 * k + 2 by omega]
            exact e
          · intro b hb
            rcases List.mem_cons.1 hb with rfl | hb
            · exact .inr HN.out.1
            · exact .inl hb
          · rcases List.mem_cons.1 hb with rfl | hb
            · simp
            · exact List.mem_cons_of_mem _ (HTS.out b hb)
        case measure => simp [intOf]; omega
    · obtain rfl : k = xs.length := by omega
      go_wp2
      go_loopw [0, 3] (fun v5 v7 wq => ∃ (j g' cap' : Nat) (us : List Value), j ≤ 20 ∧ v7 = .int .i64 j ∧ v5 = .slice (some ⟨g', 0, none⟩) (xs.length + j) cap' ∧ Row wq 112 2 g' cap' (xs.length + j) us ∧ (g' = g ∨ w.heap.size ≤ g') ∧ Fr (g :: Ss) w wq) (fun _ v _ => 20 - (intOf v).toNat)
      case atStart => exact ⟨0, g, cap, us, by omega, rfl, rfl, HROW.out, .inl rfl, HF.out⟩
      case round =>
        obtain ⟨j, g', cap', us', hj, rfl, rfl, hrow', hg', hfr'⟩ := hrel
        have HROW' := Lib.hid hrow'
        have HF' := Lib.hid hfr'
        have HG' := Lib.hid hg'
        have hws' := hfr'.size
        clear hrow' hfr' hg'
        have hj0 : (0 : Int) ≤ (j : Int) := Int.natCast_nonneg _
        by_cases hj20 : j < 20
        · have hj1 : (j : Int) < 20 := by omega
          go_wp2_with (at_builtin; refine wpList_push (by rfl) _ _ _ (by rfl) 112 _ 2 32 Try.underlying77 fld_info rfl (by omega) g' cap' (xs.length + j) us' (by rfl) (HROW'.out.alloc _) wr.heap.size 1 1 #[.string { data := #[103, 114, 111, 119, 110] }, .nilIface] (by rfl) (by rfl) (Blk.new _ _ _) (by simp [Value.oneCell']) (by omega) (by unfold maxLen; omega) (by omega) ?_; intro g2 cap2 w2 hrow2 hf2 hg2)
          go_roundw
          case rel =>
            have hz := hf2.size
            simp only [World.size_alloc] at hg2
            refine ⟨j + 1, g2, cap2, _, by omega, by go_num, rfl, hrow2, ?_, (HF'.out.alloc _).trans2 hf2 ?_⟩
            · rcases hg2 with rfl | hg2
              · exact HG'.out
              · exact .inr (by omega)
            · intro b hb
              simp only [List.mem_singleton] at hb
              subst hb
              rcases HG'.out with rfl | h
              · exact .inl (by simp)
              · exact .inr h
          case measure => simp [intOf]; omega
        · obtain rfl : j = 20 := by omega
          go_wp2
          go_end0
          exact ⟨rfl, HF'.out⟩

set_option maxRecDepth 20000 in
theorem spoil_dict (ns : List ByteArray) (xs : List V) (ih : ∀ x ∈ xs, SpoilAt x) : SpoilAt (.dict ns xs) := by
  intro v S w h hn
  obtain ⟨g0, c0, vs, Ss, rfl, hr, hvs, rfl, hns, hl, hnb⟩ := (by simpa only [VAt] using h)
  obtain ⟨a1, a2, a3, a4, a5, a6, a7, a8, a9⟩ := tas_dict
  have HC := Lib.hid (spoilt_any ns xs ih g0 c0 vs Ss w hr hvs hns hl hn)
  clear h hr hvs ih hns hnb hn
  go_enter Try.func11, Try.ntmps11
  go_wp2_with (go_at_call 39; refine HC.out.mono ?_; rintro e w1 ⟨rfl, hf1⟩; have HF1 := Lib.hid hf1; clear hf1)
  go_end0
  exact ⟨rfl, HF1.out⟩

set_option maxRecDepth 20000 in
set_option maxHeartbeats 1000000 in
theorem spoil_recd (c : ByteArray) (r : Int) (ns : List ByteArray) (xs : List V) (ih : ∀ x ∈ xs, SpoilAt x) : SpoilAt (.recd c r ns xs) := by
  intro v S w h hn
  obtain ⟨p, g0, c0, vs, Ss, rfl, hp, hr, hvs, rfl, hns, hl, hnb, hcb, hrw⟩ := (by simpa only [VAt] using h)
  obtain ⟨a1, a2, a3, a4, a5, a6, a7, a8, a9⟩ := tas_rec
  have hnd := List.nodup_cons.1 hn
  have HC := Lib.hid (spoilt_any ns xs ih g0 c0 vs Ss w hr hvs hns hl hnd.2)
  have HP := Lib.hid hp
  have HN := Lib.hid hnd.1
  have x2 : w.cell? ⟨p, 2, none⟩ = some (.slice (some ⟨g0, 0, none⟩) xs.length c0) := hp.cell 2
  clear h hr hvs ih hns hnb hn hnd hp
  go_enter Try.func11, Try.ntmps11
  go_wp2_with (go_at_call 39; refine HC.out.mono ?_; rintro e w1 ⟨rfl, hf1⟩; have hp1 := HP.out.fr hf1 HN.out; have c0' := hp1.cell 0; have c1' := hp1.cell 1; have f0' := hp1.free 0; have f1' := hp1.free 1; have HF1 := Lib.hid hf1; clear hf1 hp1)
  go_end0
  exact ⟨rfl, ((HF1.out.mono (T := p :: g0 :: Ss) (fun b hb => .inl (List.mem_cons_of_mem _ hb))).set (.inl (by simp)) _).set (.inl (by simp)) _⟩

theorem spoil_all : ∀ (k : Nat) (x : V), SizeOf.sizeOf x < k → SpoilAt x := by
  intro k
  induction k with
  | zero => intro x hx; omega
  | succ k ihk =>
    intro x hk
    cases x with
    | nil => exact spoil_nil
    | bool b => exact spoil_bool b
    | int b => exact spoil_int b
    | float b => exact spoil_float b
    | text b => exact spoil_text b
    | bytes b => exact spoil_bytes b
    | ref b => exact spoil_ref b
    | list xs => exact spoil_list xs (fun t ht => ihk t (by have := List.sizeOf_lt_of_mem ht; simp at hk; omega))
    | dict ns xs => exact spoil_dict ns xs (fun t ht => ihk t (by have := List.sizeOf_lt_of_mem ht; simp at hk; omega))
    | recd c r ns xs => exact spoil_recd c r ns xs (fun t ht => ihk t (by have := List.sizeOf_lt_of_mem ht; simp at hk; omega))
    | nothing => exact spoil_nothing
    | alien => exact spoil_alien
theorem spoil (x : V) : SpoilAt x := spoil_all _ x (Nat.lt_succ_self _)
end Go.Proofs.Ythanmakakcmkeaa
