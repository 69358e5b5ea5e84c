/- tenonref05.Group. -/
import Derived.Test.YthanmakakcmkeaaGroup
namespace Go.Proofs.Ythanmakakcmkeaa
open Go.RowKit

def cT (t u : Tm) : Int := cmpV (build t) (build u)

/-- counts of terms, twelve cells each -/
def rcells : List (List Value) → List Int → List Value
  | r :: rs, n :: ns => r ++ .int .i64 n :: rcells rs ns
  | _, _ => []
theorem rc_len : ∀ {rs : List (List Value)} {ns : List Int}, rs.length = ns.length → (∀ r ∈ rs, r.length = 11) → (rcells rs ns).length = ns.length * 12
  | [], [], _, _ => rfl
  | r :: rs, n :: ns, h, h11 => by
    simp at h
    have := rc_len (rs := rs) (ns := ns) h (fun r hr => h11 r (by simp [hr]))
    have := h11 r (by simp)
    simp [rcells]; omega
  | [], _ :: _, h, _ => by simp at h
  | _ :: _, [], h, _ => by simp at h
theorem rc_split : ∀ {rs : List (List Value)} {ns : List Int} (p : Nat), rs.length = ns.length → (∀ r ∈ rs, r.length = 11) → (rcells rs ns).take (p * 12) = rcells (rs.take p) (ns.take p) ∧ (rcells rs ns).drop (p * 12) = rcells (rs.drop p) (ns.drop p)
  | [], [], p, _, _ => by simp [rcells]
  | r :: rs, n :: ns, 0, h, _ => by simp [rcells]
  | r :: rs, n :: ns, p + 1, h, h11 => by
    have ih := rc_split (rs := rs) (ns := ns) p (by simpa using h) (fun r hr => h11 r (by simp [hr]))
    have hr := h11 r (by simp)
    rw [show (p + 1) * 12 = r.length + (p * 12 + 1) by omega]
    simp only [rcells, List.take_succ_cons, List.drop_succ_cons]
    rw [List.take_length_add_append, List.drop_length_add_append]
    simp [ih.1, ih.2]
  | [], _ :: _, _, h, _ => by simp at h
  | _ :: _, [], _, h, _ => by simp at h
theorem rc_append : ∀ {rs : List (List Value)} {ns : List Int} (us : List (List Value)) (ms : List Int), rs.length = ns.length → rcells (rs ++ us) (ns ++ ms) = rcells rs ns ++ rcells us ms
  | [], [], us, ms, _ => by simp [rcells]
  | r :: rs, n :: ns, us, ms, h => by simp at h; simp [rcells, rc_append us ms h]
  | [], _ :: _, _, _, h => by simp at h
  | _ :: _, [], _, _, h => by simp at h
theorem rc_get {rs : List (List Value)} {ns : List Int} {k : Nat} {r : List Value} {n : Int} (h : rs.length = ns.length) (h11 : ∀ r ∈ rs, r.length = 11) (hr : rs[k]? = some r) (hn : ns[k]? = some n) :
    (∀ j v, r[j]? = some v → (rcells rs ns)[k * 12 + j]? = some v) ∧ (rcells rs ns)[k * 12 + 11]? = some (.int .i64 n) := by
  have hk := (List.getElem?_eq_some_iff.1 hr).1
  have hrl := h11 r (List.mem_of_getElem? hr)
  have hd := (rc_split k h h11).2
  have e1 : rs.drop k = r :: rs.drop (k + 1) := by rw [List.drop_eq_getElem_cons hk]; congr 1; exact (List.getElem?_eq_some_iff.1 hr).2
  have e2 : ns.drop k = n :: ns.drop (k + 1) := by rw [List.drop_eq_getElem_cons (by omega)]; congr 1; exact (List.getElem?_eq_some_iff.1 hn).2
  rw [e1, e2, rcells] at hd
  have hg : ∀ j, (rcells rs ns)[k * 12 + j]? = (r ++ .int .i64 n :: rcells (rs.drop (k + 1)) (ns.drop (k + 1)))[j]? := fun j => by rw [← hd, List.getElem?_drop]
  refine ⟨fun j v hj => ?_, ?_⟩
  · rw [hg, List.getElem?_append_left (List.getElem?_eq_some_iff.1 hj).1, hj]
  · rw [hg, List.getElem?_append_right (by omega), hrl]; simp
theorem rc_set : ∀ {rs : List (List Value)} {ns : List Int} (p : Nat) (m : Int), rs.length = ns.length → (∀ r ∈ rs, r.length = 11) → (rcells rs ns).set (p * 12 + 11) (.int .i64 m) = rcells rs (ns.set p m)
  | [], [], p, m, _, _ => by simp [rcells]
  | r :: rs, n :: ns, 0, m, h, h11 => by
    have hr := h11 r (by simp)
    simp only [rcells, List.set_cons_zero]
    rw [List.set_append_right _ _ (by omega), hr]
    simp
  | r :: rs, n :: ns, p + 1, m, h, h11 => by
    have hr := h11 r (by simp)
    have := rc_set (rs := rs) (ns := ns) p m (by simpa using h) (fun r hr => h11 r (by simp [hr]))
    simp only [rcells, List.set_cons_succ]
    rw [List.set_append_right _ _ (by omega), hr, show (p + 1) * 12 + 11 - 11 = (p * 12 + 11) + 1 by omega, List.set_cons_succ, this]
  | [], _ :: _, _, _, h, _ => by simp at h
  | _ :: _, [], _, _, h, _ => by simp at h
theorem rc_one : ∀ {rs : List (List Value)} {ns : List Int}, (∀ r ∈ rs, ∀ v ∈ r, v.oneCell' = true) → ∀ v ∈ rcells rs ns, v.oneCell' = true
  | r :: rs, n :: ns, h, u, hu => by
    simp only [rcells, List.mem_append, List.mem_cons] at hu
    rcases hu with hu | rfl | hu
    · exact h r (by simp) u hu
    · rfl
    · exact rc_one (fun r hr => h r (by simp [hr])) u hu
  | [], _, _, u, hu => by simp [rcells] at hu
  | _ :: _, [], _, u, hu => by simp [rcells] at hu

theorem TmsAt.split {w : World} {B : Nat} : ∀ {ts : List Tm} {rows : List (List Value)} (p : Nat), TmsAt w B ts rows → TmsAt w B (ts.take p) (rows.take p) ∧ TmsAt w B (ts.drop p) (rows.drop p)
  | ts, rows, 0, h => by simpa [TmsAt] using h
  | [], rows, p + 1, h => by obtain rfl : rows = [] := by simpa only [TmsAt] using h
                             simp [TmsAt]
  | t :: ts, rows, p + 1, h => by
    obtain ⟨r, rs, rfl, h1, h2⟩ := (by simpa only [TmsAt] using h)
    obtain ⟨ha, hb⟩ := TmsAt.split p h2
    refine ⟨?_, by simpa using hb⟩
    simp only [List.take_succ_cons, TmsAt]
    exact ⟨r, _, rfl, h1, ha⟩
theorem TmsAt.append {w : World} {B : Nat} : ∀ {ts : List Tm} {rows : List (List Value)} {us : List Tm} {rous : List (List Value)}, TmsAt w B ts rows → TmsAt w B us rous → TmsAt w B (ts ++ us) (rows ++ rous)
  | [], rows, us, rous, h, h' => by obtain rfl : rows = [] := by simpa only [TmsAt] using h
                                    simpa using h'
  | t :: ts, rows, us, rous, h, h' => by
    obtain ⟨r, rs, rfl, h1, h2⟩ := (by simpa only [TmsAt] using h)
    simp only [List.cons_append, TmsAt]
    exact ⟨r, _, rfl, h1, TmsAt.append h2 h'⟩
theorem TmsAt.ones {w : World} {B : Nat} (ts : List Tm) {rows : List (List Value)} (h : TmsAt w B ts rows) : ∀ r ∈ rows, ∀ v ∈ r, v.oneCell' = true := by
  intro r hr
  obtain ⟨k, hk⟩ := List.getElem?_of_mem hr
  exact TmsAt.one ts h hk

theorem rcount_info : (Try.prog.info? 43).map (fun i => (i.zero, i.size, i.bytes)) = some (some (.agg #[.int .i64 0, .bool false, .int .i64 0, .float .f64 0, .string ByteArray.empty, .slice none 0 0, .int .u64 0, .slice none 0 0, .slice none 0 0, .string ByteArray.empty, .int .i64 0, .int .i64 0]), 12, 160) := by kernel_rfl

def RGrouped (w : World) (B : Nat) (l : List Tm) (e : Ending) (w' : World) : Prop := ∃ g cap rows, e = .returned (.tuple #[.slice (some ⟨g, 0, none⟩) (groupK cT l).length cap, .int .i64 0]) ∧
  Row w' 43 12 g cap (groupK cT l).length (rcells rows ((groupK cT l).map (·.2))) ∧ TmsAt w' B ((groupK cT l).map (·.1)) rows ∧ w.heap.size ≤ g ∧ Below w.heap.size w w'

set_option maxRecDepth 100000 in
set_option maxHeartbeats 2000000 in
theorem rgroup_bad (l : List Tm) (rows : List (List Value)) (A : Option Addr) (cap : Nat) (w : World) (B : Nat) (hB : B ≤ w.heap.size) (h : Rd w B 11 A l.length rows.flatten) (ht : TmsAt w B l rows) (hl : l.length ≤ 1048576) (he : errG (builds l) ≠ 0) :
    Calls Try.prog 9 #[.slice A l.length cap] w (fun e w' => e = .returned (.tuple #[.slice none 0 0, .int .i64 (errG (builds l))]) ∧ Below w.heap.size w w') := by
  have HR := Lib.hid h
  have HT := Lib.hid ht
  have HE := Lib.hid he
  obtain ⟨er, her⟩ : ∃ er, errG (builds l) = er := ⟨_, rfl⟩
  rw [her]
  have HER := Lib.hid her
  clear h ht he her
  go_enter Try.func9, Try.ntmps9
  go_wp2
  go_loopw [4, 5, 6] (fun v4 v5 v6 wr => ∃ k : Nat, k ≤ l.length ∧ v4 = .int .i64 k ∧ errG (builds (l.drop k)) = er ∧ Below w.heap.size w wr) (fun v _ _ _ => l.length - (intOf v).toNat)
  case atStart => exact ⟨0, Nat.zero_le _, rfl, by simpa using HER.out, Below.refl _ _⟩
  case round =>
    obtain ⟨k, hk, rfl, heq, hbl⟩ := hrel
    have HEQ := Lib.hid heq
    have HBL := Lib.hid hbl
    have hws := hbl.size
    clear heq hbl
    have hk0 : (0 : Int) ≤ (k : Int) := Int.natCast_nonneg _
    by_cases hlt : k < l.length
    · have hk1 : (k : Int) < (l.length : Int) := by omega
      obtain ⟨bA, off, rfl, hbA, _⟩ := HR.out.2 (by omega)
      obtain ⟨hrl, hget⟩ := TmsAt.get l HT.out
      obtain ⟨x, hx, htx⟩ := hget k l[k] (by simp [hlt])
      have h11 := TmsAt.len l HT.out
      have hcells := flat_at (HR.out.below HBL.out hB) h11 hrl k x hx
      obtain ⟨q0, q1, q2, q3, q4, q5, q6, q7, q8, q9, q10, rfl⟩ := list11 (h11 x (List.mem_of_getElem? hx))
      obtain ⟨hc0, hc1, hc2, hc3, hc4, hc5, hc6, hc7, hc8, hc9, hc10⟩ := range11 hcells
      have hc := rcheck_any l[k] _ wr B (by omega) (htx.below HBL.out hB)
      have hst := HEQ.out
      rw [List.drop_eq_getElem_cons hlt, builds, errG] at hst
      generalize checkV (build l[k]) = q at hc hst
      obtain ⟨e1, e2⟩ := q
      have HC : Hid (Calls Try.prog 36 #[.agg #[q0, q1, q2, q3, q4, q5, q6, q7, q8, q9, q10]] wr (Checked (e1, e2) wr)) := Lib.hid hc
      have HST := Lib.hid hst
      clear hc hx htx hst hcells hget hrl h11
      by_cases hq : e2 = 0
      · subst hq
        go_wp2_with (go_at_call 36; refine HC.out.mono ?_; rintro e w1 ⟨rfl, hb1⟩)
        go_roundw
        case rel => exact ⟨k + 1, by omega, by go_num, by simpa using HST.out, HBL.out.trans (hb1.mono hws)⟩
        case measure => simp [intOf]; omega
      · have hq0 : (e2 != 0) = true := by simpa using hq
        go_wp2_with (go_at_call 36; refine HC.out.mono ?_; rintro e w1 ⟨rfl, hb1⟩)
        go_ret2
        have h3 := HST.out
        rw [if_neg hq] at h3
        exact ⟨by rw [← h3]; rfl, HBL.out.trans (hb1.mono hws)⟩
    · exfalso
      obtain rfl : k = l.length := by omega
      have h3 := HEQ.out
      rw [List.drop_of_length_le (Nat.le_refl _)] at h3
      simp only [builds, errG] at h3
      exact HE.out (by rw [HER.out, ← h3])

theorem range_below {w w' : World} {B b o : Nat} {cs : List Value} (h : w.rangeAt b o cs) (hb : Below B w w') (hlt : b < B) : w'.rangeAt b o cs := fun j v hv => (hb.cell (p := ⟨b, o + j, none⟩) hlt).trans (h j v hv)
theorem Row.pre {w : World} {e size g cap n : Nat} {xs : List Value} (h : Row w e size g cap n xs) {p : Nat} (hp : p ≤ n) : Row w e size g cap p (xs.take (p * size)) := by
  obtain ⟨h1, h2, h3, cur, h4, h5, rfl⟩ := h
  have := Nat.mul_le_mul_right size hp
  have := Nat.mul_le_mul_right size h2
  refine ⟨by simp; omega, by omega, h3, cur, h4, h5, ?_⟩
  rw [List.take_take, Nat.min_eq_left (by omega)]
theorem Row.suf {w : World} {e size g cap n : Nat} {xs : List Value} (h : Row w e size g cap n xs) {p : Nat} (hp : p ≤ n) (B : Nat) (hB : g < B) : Rd w B size (some ⟨g, p * size, none⟩) (n - p) (xs.drop (p * size)) := by
  have := Nat.mul_le_mul_right size hp
  refine ⟨by rw [List.length_drop, h.1, Nat.sub_mul], fun _ => ⟨g, p * size, rfl, hB, fun j hj => ?_⟩⟩
  rw [Nat.sub_mul] at hj
  rw [h.cell _ (by omega), List.getElem?_drop]
theorem rc_list {rs : List (List Value)} {ns : List Int} (yr : List Value) (p : Nat) (h : rs.length = ns.length) (h11 : ∀ r ∈ rs, r.length = 11) :
    [] ++ (rcells rs ns).take (p * 12) ++ (yr ++ [.int .i64 1]) ++ (rcells rs ns).drop (p * 12) = rcells (rs.take p ++ yr :: rs.drop p) (ns.take p ++ 1 :: ns.drop p) := by
  obtain ⟨h1, h2⟩ := rc_split (rs := rs) (ns := ns) p h h11
  rw [h1, h2, rc_append _ _ (by simp [h])]
  simp [rcells]
theorem place_caseT (R : List (Tm × Int)) (y : Tm) : (∃ z, R[placeK cT R y]? = some z ∧ cT z.1 y = 0 ∧ insK cT R y = R.set (placeK cT R y) (z.1, z.2 + 1)) ∨
    (∃ z, R[placeK cT R y]? = some z ∧ 0 < cT z.1 y ∧ insK cT R y = R.take (placeK cT R y) ++ (y, 1) :: R.drop (placeK cT R y)) ∨
    (placeK cT R y = R.length ∧ insK cT R y = R.take (placeK cT R y) ++ (y, 1) :: R.drop (placeK cT R y)) := by
  have h := insK_eq cT R y
  cases hz : R[placeK cT R y]? with
  | none =>
    rw [hz] at h
    have := placeK_le cT R y
    have := List.getElem?_eq_none_iff.1 hz
    exact .inr (.inr ⟨by omega, h⟩)
  | some z =>
    rw [hz] at h
    have h1 := placeK_at cT R y z hz
    by_cases h0 : cT z.1 y = 0
    · simp only [h0, if_true] at h; exact .inl ⟨z, rfl, h0, h⟩
    · simp only [h0, if_false] at h; exact .inr (.inl ⟨z, rfl, by omega, h⟩)
theorem map_set_sameT {R : List (Tm × Int)} {p : Nat} {z1 : Tm} {z2 m : Int} (h : R[p]? = some (z1, z2)) : (R.set p (z1, m)).map (·.1) = R.map (·.1) := by
  apply List.ext_getElem?
  intro i
  rw [List.getElem?_map, List.getElem?_map, List.getElem?_set]
  by_cases hi : p = i
  · subst hi
    obtain ⟨h1, h2⟩ := List.getElem?_eq_some_iff.1 h
    simp [h1, h2]
  · simp [hi]

/-- the terms of a list of counts, and how one of them and a term are compared -/
theorem ask_cmp {w : World} {B g cap : Nat} {R : List (Tm × Int)} {rows : List (List Value)} {y : Tm} {ycs : List Value} (hB : B ≤ w.heap.size) (hr : Row w 43 12 g cap R.length (rcells rows (R.map (·.2)))) (ht : TmsAt w B (R.map (·.1)) rows) (hy : TmAt w B y ycs)
    (hg : ∀ z ∈ R, goodV (build z.1)) (hgy : goodV (build y)) {j : Nat} {z : Tm × Int} (hz : R[j]? = some z) :
    ∃ z0 z1 z2 z3 z4 z5 z6 z7 z8 z9 z10, w.rangeAt g (j * 12) [z0, z1, z2, z3, z4, z5, z6, z7, z8, z9, z10] ∧ w.cell? ⟨g, j * 12 + 11, none⟩ = some (.int .i64 z.2) ∧
      ∀ W, Below w.heap.size w W → Calls Try.prog 37 #[.agg #[z0, z1, z2, z3, z4, z5, z6, z7, z8, z9, z10], .agg ycs.toArray] W (Gives (cT z.1 y) W) := by
  have hjl := (List.getElem?_eq_some_iff.1 hz).1
  obtain ⟨hrl, hget⟩ := TmsAt.get _ ht
  obtain ⟨r, hr1, hr2⟩ := hget j z.1 (by simp [hz])
  have h11 := TmsAt.len _ ht
  obtain ⟨z0, z1, z2, z3, z4, z5, z6, z7, z8, z9, z10, rfl⟩ := list11 (h11 r (List.mem_of_getElem? hr1))
  obtain ⟨e1, e2⟩ := rc_get (ns := R.map (·.2)) (n := z.2) (by simpa using hrl) h11 hr1 (by simp [hz])
  refine ⟨z0, z1, z2, z3, z4, z5, z6, z7, z8, z9, z10, fun i v hv => ?_, by rw [hr.cell _ (by omega), e2], fun W hW => ?_⟩
  · have hi := (List.getElem?_eq_some_iff.1 hv).1
    simp at hi
    rw [hr.cell _ (by omega)]
    exact e1 i v hv
  · exact compare z.1 y _ _ W B (Nat.le_trans hB hW.size) (hr2.below hW hB) (hy.below hW hB) (hg z (List.mem_of_getElem? hz)) hgy

set_option maxRecDepth 100000 in
set_option maxHeartbeats 16000000 in
theorem rgroup_good (l : List Tm) (rows0 : List (List Value)) (A : Option Addr) (cap : Nat) (w : World) (B : Nat) (hB : B ≤ w.heap.size) (h : Rd w B 11 A l.length rows0.flatten) (ht : TmsAt w B l rows0) (hl : l.length ≤ 1048576) (he : errG (builds l) = 0) :
    Calls Try.prog 9 #[.slice A l.length cap] w (RGrouped w B l) := by
  have HR := Lib.hid h
  have HT := Lib.hid ht
  have HG : Hid (∀ t ∈ l, (checkV (build t)).2 = 0) := Lib.hid fun t ht => errG_good he _ (by rw [builds_map]; exact List.mem_map_of_mem ht)
  clear h ht he
  go_enter Try.func9, Try.ntmps9
  go_wp2
  go_loopw [4, 5, 6] (fun v4 v5 v6 wr => ∃ k : Nat, k ≤ l.length ∧ v4 = .int .i64 k ∧ Below w.heap.size w wr) (fun v _ _ _ => l.length - (intOf v).toNat)
  case atStart => exact ⟨0, Nat.zero_le _, rfl, Below.refl _ _⟩
  case round =>
    obtain ⟨k, hk, rfl, hbl⟩ := hrel
    have HBL := Lib.hid hbl
    have hws := hbl.size
    clear hbl
    have hk0 : (0 : Int) ≤ (k : Int) := Int.natCast_nonneg _
    by_cases hlt : k < l.length
    · have hk1 : (k : Int) < (l.length : Int) := by omega
      obtain ⟨bA, off, rfl, hbA, _⟩ := HR.out.2 (by omega)
      obtain ⟨hrl, hget⟩ := TmsAt.get l HT.out
      obtain ⟨x, hx, htx⟩ := hget k l[k] (by simp [hlt])
      have h11 := TmsAt.len l HT.out
      have hcells := flat_at (HR.out.below HBL.out hB) h11 hrl k x hx
      obtain ⟨q0, q1, q2, q3, q4, q5, q6, q7, q8, q9, q10, rfl⟩ := list11 (h11 x (List.mem_of_getElem? hx))
      obtain ⟨hc0, hc1, hc2, hc3, hc4, hc5, hc6, hc7, hc8, hc9, hc10⟩ := range11 hcells
      have hc := rcheck_any l[k] _ wr B (by omega) (htx.below HBL.out hB)
      rw [check_zero (HG.out _ (List.getElem_mem hlt))] at hc
      have HC : Hid (Calls Try.prog 36 #[.agg #[q0, q1, q2, q3, q4, q5, q6, q7, q8, q9, q10]] wr (Checked (0, 0) wr)) := Lib.hid hc
      clear hc hx htx hcells hget hrl h11
      go_wp2_with (go_at_call 36; refine HC.out.mono ?_; rintro e w1 ⟨rfl, hb1⟩)
      go_roundw
      case rel => exact ⟨k + 1, by omega, by go_num, HBL.out.trans (hb1.mono hws)⟩
      case measure => simp [intOf]; omega
    · obtain rfl : k = l.length := by omega
      go_wp2
      obtain ⟨W0, rfl⟩ : ∃ W0 : World, W0 = wr := ⟨_, rfl⟩
      have HA0 : Hid (Below w.heap.size w (W0.alloc (.cells #[] 43))) := Lib.hid (HBL.out.alloc hws _)
      have HRow0 : Hid (Row (W0.alloc (.cells #[] 43)) 43 12 W0.heap.size 0 0 []) := Lib.hid (Row.made W0 43 12 #[] 0 (by decide) rfl)
      go_loopw [7, 8] (fun v7 v8 wq => ∃ (k g cap' : Nat) (rows : List (List Value)), k ≤ l.length ∧ v8 = .int .i64 k ∧ v7 = .slice (some ⟨g, 0, none⟩) (groupK cT (l.take k)).length cap' ∧
        Row wq 43 12 g cap' (groupK cT (l.take k)).length (rcells rows ((groupK cT (l.take k)).map (·.2))) ∧ TmsAt wq B ((groupK cT (l.take k)).map (·.1)) rows ∧ w.heap.size ≤ g ∧ Below w.heap.size w wq) (fun _ v _ => l.length - (intOf v).toNat)
      case atStart => exact ⟨0, W0.heap.size, 0, [], Nat.zero_le _, rfl, rfl, by simpa [groupK, rcells] using HRow0.out, by simp [groupK, TmsAt], hws, HA0.out⟩
      case round =>
        obtain ⟨k, g, cap', rows, hk, rfl, rfl, hrow, htms, hgw, hbq⟩ := hrel
        obtain ⟨wo, rfl⟩ : ∃ wo : World, wo = wr := ⟨_, rfl⟩
        have hwk := hbq.size
        have HBQ := Lib.hid hbq
        have hk0 : (0 : Int) ≤ (k : Int) := Int.natCast_nonneg _
        clear hbq
        by_cases hlt : k < l.length
        · have hk1 : (k : Int) < (l.length : Int) := by omega
          obtain ⟨bA, off, rfl, hbA, _⟩ := HR.out.2 (by omega)
          obtain ⟨hrl, hget⟩ := TmsAt.get l HT.out
          obtain ⟨x, hx, htx⟩ := hget k l[k] (by simp [hlt])
          have h11 := TmsAt.len l HT.out
          obtain ⟨y0, y1, y2, y3, y4, y5, y6, y7, y8, y9, y10, rfl⟩ := list11 (h11 x (List.mem_of_getElem? hx))
          have HYC : Hid (∀ W, Below w.heap.size w W → W.rangeAt bA (off + k * 11) [y0, y1, y2, y3, y4, y5, y6, y7, y8, y9, y10]) := Lib.hid fun W hW => flat_at (HR.out.below hW hB) h11 hrl k _ hx
          have HSTEP := Lib.hid (groupK_take cT hlt)
          have hgoodR : ∀ z ∈ groupK cT (l.take k), goodV (build z.1) := fun z hz => check_good (HG.out _ (List.mem_of_mem_take (groupK_mem cT _ z hz)))
          have hcnt := groupK_cnt cT (l.take k)
          have hlenR : (groupK cT (l.take k)).length ≤ k := Nat.le_trans (groupK_len cT _) (by simp; omega)
          have hgy := check_good (HG.out _ (List.getElem_mem hlt))
          have hyo := htx.below HBQ.out hB
          rw [List.length_take] at hcnt
          generalize groupK cT (l.take k) = R at hrow htms HSTEP hgoodR hcnt hlenR
          generalize l[k] = y at htx HSTEP hgy hyo
          have hask := fun j z hz => ask_cmp (j := j) (z := z) (Nat.le_trans hB hwk) hrow htms hyo hgoodR hgy hz
          have hple := placeK_le cT R y
          have hcase := place_caseT R y
          have hplo := placeK_lo cT R y
          generalize placeK cT R y = p at hple hcase hplo
          have HASK := Lib.hid hask
          have HPLO := Lib.hid hplo
          have HROW := Lib.hid hrow
          have HTMS := Lib.hid htms
          have HTX := Lib.hid htx
          have HYO : Hid (∀ u ∈ #[y0, y1, y2, y3, y4, y5, y6, y7, y8, y9, y10, Value.int .i64 1].toList, u.oneCell' = true) := Lib.hid fun u hu => by
            have h := TmAt.one _ htx
            simp only [List.mem_cons, List.not_mem_nil, or_false] at hu h
            rcases hu with rfl | rfl | rfl | rfl | rfl | rfl | rfl | rfl | rfl | rfl | rfl | rfl
            all_goals first | rfl | (exact h _ (by simp))
          have hgl := hrow.lt
          have hrc := hrow.2.1
          have hbAo : bA < wo.heap.size := by omega
          clear hx htx hget hrl h11 hrow htms hask hplo hgoodR hgy hyo
          rcases hcase with ⟨z, hz, hz0, hins⟩ | ⟨z, hz, hz0, hins⟩ | ⟨hpe, hins⟩
          · skip
            obtain ⟨zt, zn⟩ := z
            have hpl : p < R.length := (List.getElem?_eq_some_iff.1 hz).1
            have hzm := hcnt _ (List.mem_of_getElem? hz)
            have HZ := Lib.hid hz
            have HINS := Lib.hid hins
            dsimp only at hz0 hzm
            have hzw : IntKind.i64.wrap (zn + 1) = zn + 1 := IntWalk.i64_in _ ⟨by omega, by omega⟩
            clear hz hins hcnt
            go_wp2
            go_loopw [9] (fun v9 wq => ∃ j : Nat, j ≤ p ∧ v9 = .int .i64 j ∧ Below wo.heap.size wo wq) (fun v _ => R.length - (intOf v).toNat)
            case atStart => exact ⟨0, Nat.zero_le _, rfl, Below.refl _ _⟩
            case round =>
              obtain ⟨j, hj, rfl, hbj⟩ := hrel
              have HBJ := Lib.hid hbj
              have hwj := hbj.size
              have hj0 : (0 : Int) ≤ (j : Int) := Int.natCast_nonneg _
              have hgj : g < wr.heap.size := by omega
              have hbAj : bA < wr.heap.size := by omega
              clear hbj
              obtain ⟨hy0, hy1, hy2, hy3, hy4, hy5, hy6, hy7, hy8, hy9, hy10⟩ := range11 (HYC.out wr (HBQ.out.trans (HBJ.out.mono hwk)))
              by_cases hjp : j < p
              · have hjl : j < R.length := by omega
                have hzj : R[j]? = some R[j] := List.getElem?_eq_getElem hjl
                obtain ⟨zv0, zv1, zv2, zv3, zv4, zv5, zv6, zv7, zv8, zv9, zv10, hrz, _, hcz⟩ := HASK.out j _ hzj
                have hneg := HPLO.out j _ hjp hzj
                obtain ⟨he0, he1, he2, he3, he4, he5, he6, he7, he8, he9, he10⟩ := range11 (range_below hrz HBJ.out hgl)
                generalize cT (R[j]).1 y = c at hcz hneg
                have hnb : decide (c < 0) = true := by simpa using hneg
                have HCZ := Lib.hid hcz
                have hj1 : (j : Int) < (R.length : Int) := by omega
                have hd1 : decide ((j : Int) < (R.length : Int)) = true := by simp; omega
                clear hcz hrz hzj hneg
                go_wp2
                refine region_seq 17 (Kept wr.heap.size wr) (by kernel_rfl) (by kernel_rfl) (Kept.refl _) (fun hHeld => ?_)
                repeat (first | (refine seq_take_free (v := ?_) (by kernel_rfl) rfl (fun _ _ _ h => h) hHeld ?_ ?_; rotate_left; (focus (((intro w hSw; obtain ⟨hk1, hk2⟩ := Kept.cells hSw; clear hSw; go_simp) <;> with_reducible rfl); done)); (try simp only [Act.put, List.setIfInBounds_toArray, List.set_cons_zero, List.set_cons_succ])) | (refine seq_take_on (v := ?_) (by kernel_rfl) rfl rfl rfl (fun _ _ _ h => h) hHeld ?_ ?_; rotate_left; (focus (((intro w hSw; obtain ⟨hk1, hk2⟩ := Kept.cells hSw; clear hSw; go_simp) <;> with_reducible rfl); done)); (try simp only [Act.put, List.setIfInBounds_toArray, List.set_cons_zero, List.set_cons_succ])) | (refine seq_off (by kernel_rfl) rfl rfl rfl (fun _ _ _ h => h) hHeld ?_; (try simp only [Act.put, List.setIfInBounds_toArray, List.set_cons_zero, List.set_cons_succ])))
                refine seq_call_on (by kernel_rfl) rfl rfl rfl (fun K hK => ?_)
                go_simp
                (refine (HCZ.out _ (HBJ.out.trans (hHeld.below.mono hwj))).mono ?_; rintro e w1 ⟨rfl, hb1⟩)
                refine hK.out _ _ ?_ (fun hHeld2 => ?_)
                · exact hHeld.step hb1 (Nat.le_refl _)
                clear hK K hHeld
                have hHeld := hHeld2
                clear hHeld2
                (try simp only [Act.put, List.setIfInBounds_toArray, List.set_cons_zero, List.set_cons_succ])
                repeat (first | (refine seq_take_free (v := ?_) (by kernel_rfl) rfl (fun _ _ _ h => h) hHeld ?_ ?_; rotate_left; (focus (((intro w hSw; obtain ⟨hk1, hk2⟩ := Kept.cells hSw; clear hSw; go_simp) <;> with_reducible rfl); done)); (try simp only [Act.put, List.setIfInBounds_toArray, List.set_cons_zero, List.set_cons_succ])) | (refine seq_take_on (v := ?_) (by kernel_rfl) rfl rfl rfl (fun _ _ _ h => h) hHeld ?_ ?_; rotate_left; (focus (((intro w hSw; obtain ⟨hk1, hk2⟩ := Kept.cells hSw; clear hSw; go_simp) <;> with_reducible rfl); done)); (try simp only [Act.put, List.setIfInBounds_toArray, List.set_cons_zero, List.set_cons_succ])) | (refine seq_off (by kernel_rfl) rfl rfl rfl (fun _ _ _ h => h) hHeld ?_; (try simp only [Act.put, List.setIfInBounds_toArray, List.set_cons_zero, List.set_cons_succ])))
                refine seq_done ?_
                go_wp2
                go_roundw
                case rel => exact ⟨j + 1, by omega, by go_num, HBJ.out.trans (hHeld.below.mono hwj)⟩
                case measure => simp [intOf]; omega
              · obtain rfl : j = p := by omega
                obtain ⟨zv0, zv1, zv2, zv3, zv4, zv5, zv6, zv7, zv8, zv9, zv10, hrz, hzn, hcz⟩ := HASK.out j _ HZ.out
                obtain ⟨he0, he1, he2, he3, he4, he5, he6, he7, he8, he9, he10⟩ := range11 (range_below hrz HBJ.out hgl)
                generalize cT zt y = c at hcz hz0
                have hnb : decide (c < 0) = false := by simp; omega
                have heq : (c == 0) = true := by simp; omega
                have HCZ := Lib.hid hcz
                have HRZ := Lib.hid hrz
                have HZN := Lib.hid hzn
                have hj1 : (j : Int) < (R.length : Int) := by omega
                have hd1 : decide ((j : Int) < (R.length : Int)) = true := by simp; omega
                clear hcz hrz hzn
                go_wp2
                refine region_seq 17 (Kept wr.heap.size wr) (by kernel_rfl) (by kernel_rfl) (Kept.refl _) (fun hHeld => ?_)
                repeat (first | (refine seq_take_free (v := ?_) (by kernel_rfl) rfl (fun _ _ _ h => h) hHeld ?_ ?_; rotate_left; (focus (((intro w hSw; obtain ⟨hk1, hk2⟩ := Kept.cells hSw; clear hSw; go_simp) <;> with_reducible rfl); done)); (try simp only [Act.put, List.setIfInBounds_toArray, List.set_cons_zero, List.set_cons_succ])) | (refine seq_take_on (v := ?_) (by kernel_rfl) rfl rfl rfl (fun _ _ _ h => h) hHeld ?_ ?_; rotate_left; (focus (((intro w hSw; obtain ⟨hk1, hk2⟩ := Kept.cells hSw; clear hSw; go_simp) <;> with_reducible rfl); done)); (try simp only [Act.put, List.setIfInBounds_toArray, List.set_cons_zero, List.set_cons_succ])) | (refine seq_off (by kernel_rfl) rfl rfl rfl (fun _ _ _ h => h) hHeld ?_; (try simp only [Act.put, List.setIfInBounds_toArray, List.set_cons_zero, List.set_cons_succ])))
                refine seq_call_on (by kernel_rfl) rfl rfl rfl (fun K hK => ?_)
                go_simp
                (refine (HCZ.out _ (HBJ.out.trans (hHeld.below.mono hwj))).mono ?_; rintro e w1 ⟨rfl, hb1⟩)
                refine hK.out _ _ ?_ (fun hHeld2 => ?_)
                · exact hHeld.step hb1 (Nat.le_refl _)
                clear hK K hHeld
                have hHeld := hHeld2
                clear hHeld2
                (try simp only [Act.put, List.setIfInBounds_toArray, List.set_cons_zero, List.set_cons_succ])
                repeat (first | (refine seq_take_free (v := ?_) (by kernel_rfl) rfl (fun _ _ _ h => h) hHeld ?_ ?_; rotate_left; (focus (((intro w hSw; obtain ⟨hk1, hk2⟩ := Kept.cells hSw; clear hSw; go_simp) <;> with_reducible rfl); done)); (try simp only [Act.put, List.setIfInBounds_toArray, List.set_cons_zero, List.set_cons_succ])) | (refine seq_take_on (v := ?_) (by kernel_rfl) rfl rfl rfl (fun _ _ _ h => h) hHeld ?_ ?_; rotate_left; (focus (((intro w hSw; obtain ⟨hk1, hk2⟩ := Kept.cells hSw; clear hSw; go_simp) <;> with_reducible rfl); done)); (try simp only [Act.put, List.setIfInBounds_toArray, List.set_cons_zero, List.set_cons_succ])) | (refine seq_off (by kernel_rfl) rfl rfl rfl (fun _ _ _ h => h) hHeld ?_; (try simp only [Act.put, List.setIfInBounds_toArray, List.set_cons_zero, List.set_cons_succ])))
                refine seq_done ?_
                have HB1 := Lib.hid (HBJ.out.trans (hHeld.below.mono hwj))
                have hw1s : wo.heap.size ≤ w1.heap.size := HB1.out.size
                clear hHeld hy0 hy1 hy2 hy3 hy4 hy5 hy6 hy7 hy8 hy9 hy10 he0 he1 he2 he3 he4 he5 he6 he7 he8 he9 he10
                obtain ⟨hy0, hy1, hy2, hy3, hy4, hy5, hy6, hy7, hy8, hy9, hy10⟩ := range11 (HYC.out w1 (HBQ.out.trans (HB1.out.mono hwk)))
                obtain ⟨he0, he1, he2, he3, he4, he5, he6, he7, he8, he9, he10⟩ := range11 (range_below HRZ.out HB1.out hgl)
                have hg1 : g < w1.heap.size := by omega
                have hbA1 : bA < w1.heap.size := by omega
                go_wp2
                refine region_seq 17 (Kept w1.heap.size w1) (by kernel_rfl) (by kernel_rfl) (Kept.refl _) (fun hHeld => ?_)
                repeat (first | (refine seq_take_free (v := ?_) (by kernel_rfl) rfl (fun _ _ _ h => h) hHeld ?_ ?_; rotate_left; (focus (((intro w hSw; obtain ⟨hk1, hk2⟩ := Kept.cells hSw; clear hSw; go_simp) <;> with_reducible rfl); done)); (try simp only [Act.put, List.setIfInBounds_toArray, List.set_cons_zero, List.set_cons_succ])) | (refine seq_take_on (v := ?_) (by kernel_rfl) rfl rfl rfl (fun _ _ _ h => h) hHeld ?_ ?_; rotate_left; (focus (((intro w hSw; obtain ⟨hk1, hk2⟩ := Kept.cells hSw; clear hSw; go_simp) <;> with_reducible rfl); done)); (try simp only [Act.put, List.setIfInBounds_toArray, List.set_cons_zero, List.set_cons_succ])) | (refine seq_off (by kernel_rfl) rfl rfl rfl (fun _ _ _ h => h) hHeld ?_; (try simp only [Act.put, List.setIfInBounds_toArray, List.set_cons_zero, List.set_cons_succ])))
                refine seq_call_on (by kernel_rfl) rfl rfl rfl (fun K hK => ?_)
                go_simp
                (refine (HCZ.out _ (HB1.out.trans (hHeld.below.mono hw1s))).mono ?_; rintro e w2 ⟨rfl, hb2⟩)
                refine hK.out _ _ ?_ (fun hHeld2 => ?_)
                · exact hHeld.step hb2 (Nat.le_refl _)
                clear hK K hHeld
                have hHeld := hHeld2
                clear hHeld2
                (try simp only [Act.put, List.setIfInBounds_toArray, List.set_cons_zero, List.set_cons_succ])
                repeat (first | (refine seq_take_free (v := ?_) (by kernel_rfl) rfl (fun _ _ _ h => h) hHeld ?_ ?_; rotate_left; (focus (((intro w hSw; obtain ⟨hk1, hk2⟩ := Kept.cells hSw; clear hSw; go_simp) <;> with_reducible rfl); done)); (try simp only [Act.put, List.setIfInBounds_toArray, List.set_cons_zero, List.set_cons_succ])) | (refine seq_take_on (v := ?_) (by kernel_rfl) rfl rfl rfl (fun _ _ _ h => h) hHeld ?_ ?_; rotate_left; (focus (((intro w hSw; obtain ⟨hk1, hk2⟩ := Kept.cells hSw; clear hSw; go_simp) <;> with_reducible rfl); done)); (try simp only [Act.put, List.setIfInBounds_toArray, List.set_cons_zero, List.set_cons_succ])) | (refine seq_off (by kernel_rfl) rfl rfl rfl (fun _ _ _ h => h) hHeld ?_; (try simp only [Act.put, List.setIfInBounds_toArray, List.set_cons_zero, List.set_cons_succ])))
                refine seq_done ?_
                have HB2 := Lib.hid (HB1.out.trans (hHeld.below.mono hw1s))
                have hw2s : wo.heap.size ≤ w2.heap.size := HB2.out.size
                clear hHeld hy0 hy1 hy2 hy3 hy4 hy5 hy6 hy7 hy8 hy9 hy10 he0 he1 he2 he3 he4 he5 he6 he7 he8 he9 he10
                have hr2 := HROW.out.same (HB2.out.block g hgl)
                have hc11 : w2.cell? ⟨g, j * 12 + 11, none⟩ = some (.int .i64 zn) := (HB2.out.cell (p := ⟨g, j * 12 + 11, none⟩) hgl).trans HZN.out
                have hf11 := hr2.free (j * 12 + 11)
                have HR2 := Lib.hid hr2
                clear hr2
                go_wp2
                go_roundw
                case rel =>
                  have h11 := TmsAt.len _ HTMS.out
                  have hlen : rows.length = R.length := by have := (TmsAt.get _ HTMS.out).1; simpa using this
                  refine ⟨k + 1, g, cap', rows, by omega, by go_num, ?_, ?_, ?_, hgw, ?_⟩
                  · rw [HSTEP.out, HINS.out, List.length_set]
                  · rw [HSTEP.out, HINS.out, List.length_set, List.map_set]
                    have := HR2.out.set (j * 12 + 11) (.int .i64 (zn + 1))
                    rwa [rc_set _ _ (by simpa using hlen) h11] at this
                  · rw [HSTEP.out, HINS.out, map_set_sameT HZ.out]
                    exact TmsAt.keep (fun b off hb => by
                      rw [World.cell?_of_block (a := ⟨b, off, none⟩) (Below.heap_setCell _ _ _ _ (by show b ≠ g; omega))]
                      exact HB2.out.cell (p := ⟨b, off, none⟩) (by show b < wo.heap.size; omega)) _ HTMS.out
                  · exact HBQ.out.trans ((HB2.out.mono hwk).setCell hgw _)
                case measure => simp [intOf]; omega
          · skip
            obtain ⟨zt, zn⟩ := z
            have hpl : p < R.length := (List.getElem?_eq_some_iff.1 hz).1
            have HZ := Lib.hid hz
            have HINS := Lib.hid hins
            dsimp only at hz0
            clear hz hins hcnt
            go_wp2
            go_loopw [9] (fun v9 wq => ∃ j : Nat, j ≤ p ∧ v9 = .int .i64 j ∧ Below wo.heap.size wo wq) (fun v _ => R.length - (intOf v).toNat)
            case atStart => exact ⟨0, Nat.zero_le _, rfl, Below.refl _ _⟩
            case round =>
              obtain ⟨j, hj, rfl, hbj⟩ := hrel
              have HBJ := Lib.hid hbj
              have hwj := hbj.size
              have hj0 : (0 : Int) ≤ (j : Int) := Int.natCast_nonneg _
              have hgj : g < wr.heap.size := by omega
              have hbAj : bA < wr.heap.size := by omega
              clear hbj
              obtain ⟨hy0, hy1, hy2, hy3, hy4, hy5, hy6, hy7, hy8, hy9, hy10⟩ := range11 (HYC.out wr (HBQ.out.trans (HBJ.out.mono hwk)))
              by_cases hjp : j < p
              · have hjl : j < R.length := by omega
                have hzj : R[j]? = some R[j] := List.getElem?_eq_getElem hjl
                obtain ⟨zv0, zv1, zv2, zv3, zv4, zv5, zv6, zv7, zv8, zv9, zv10, hrz, _, hcz⟩ := HASK.out j _ hzj
                have hneg := HPLO.out j _ hjp hzj
                obtain ⟨he0, he1, he2, he3, he4, he5, he6, he7, he8, he9, he10⟩ := range11 (range_below hrz HBJ.out hgl)
                generalize cT (R[j]).1 y = c at hcz hneg
                have hnb : decide (c < 0) = true := by simpa using hneg
                have HCZ := Lib.hid hcz
                have hj1 : (j : Int) < (R.length : Int) := by omega
                have hd1 : decide ((j : Int) < (R.length : Int)) = true := by simp; omega
                clear hcz hrz hzj hneg
                go_wp2
                refine region_seq 17 (Kept wr.heap.size wr) (by kernel_rfl) (by kernel_rfl) (Kept.refl _) (fun hHeld => ?_)
                repeat (first | (refine seq_take_free (v := ?_) (by kernel_rfl) rfl (fun _ _ _ h => h) hHeld ?_ ?_; rotate_left; (focus (((intro w hSw; obtain ⟨hk1, hk2⟩ := Kept.cells hSw; clear hSw; go_simp) <;> with_reducible rfl); done)); (try simp only [Act.put, List.setIfInBounds_toArray, List.set_cons_zero, List.set_cons_succ])) | (refine seq_take_on (v := ?_) (by kernel_rfl) rfl rfl rfl (fun _ _ _ h => h) hHeld ?_ ?_; rotate_left; (focus (((intro w hSw; obtain ⟨hk1, hk2⟩ := Kept.cells hSw; clear hSw; go_simp) <;> with_reducible rfl); done)); (try simp only [Act.put, List.setIfInBounds_toArray, List.set_cons_zero, List.set_cons_succ])) | (refine seq_off (by kernel_rfl) rfl rfl rfl (fun _ _ _ h => h) hHeld ?_; (try simp only [Act.put, List.setIfInBounds_toArray, List.set_cons_zero, List.set_cons_succ])))
                refine seq_call_on (by kernel_rfl) rfl rfl rfl (fun K hK => ?_)
                go_simp
                (refine (HCZ.out _ (HBJ.out.trans (hHeld.below.mono hwj))).mono ?_; rintro e w1 ⟨rfl, hb1⟩)
                refine hK.out _ _ ?_ (fun hHeld2 => ?_)
                · exact hHeld.step hb1 (Nat.le_refl _)
                clear hK K hHeld
                have hHeld := hHeld2
                clear hHeld2
                (try simp only [Act.put, List.setIfInBounds_toArray, List.set_cons_zero, List.set_cons_succ])
                repeat (first | (refine seq_take_free (v := ?_) (by kernel_rfl) rfl (fun _ _ _ h => h) hHeld ?_ ?_; rotate_left; (focus (((intro w hSw; obtain ⟨hk1, hk2⟩ := Kept.cells hSw; clear hSw; go_simp) <;> with_reducible rfl); done)); (try simp only [Act.put, List.setIfInBounds_toArray, List.set_cons_zero, List.set_cons_succ])) | (refine seq_take_on (v := ?_) (by kernel_rfl) rfl rfl rfl (fun _ _ _ h => h) hHeld ?_ ?_; rotate_left; (focus (((intro w hSw; obtain ⟨hk1, hk2⟩ := Kept.cells hSw; clear hSw; go_simp) <;> with_reducible rfl); done)); (try simp only [Act.put, List.setIfInBounds_toArray, List.set_cons_zero, List.set_cons_succ])) | (refine seq_off (by kernel_rfl) rfl rfl rfl (fun _ _ _ h => h) hHeld ?_; (try simp only [Act.put, List.setIfInBounds_toArray, List.set_cons_zero, List.set_cons_succ])))
                refine seq_done ?_
                go_wp2
                go_roundw
                case rel => exact ⟨j + 1, by omega, by go_num, HBJ.out.trans (hHeld.below.mono hwj)⟩
                case measure => simp [intOf]; omega
              · obtain rfl : j = p := by omega
                obtain ⟨zv0, zv1, zv2, zv3, zv4, zv5, zv6, zv7, zv8, zv9, zv10, hrz, hzn, hcz⟩ := HASK.out j _ HZ.out
                obtain ⟨he0, he1, he2, he3, he4, he5, he6, he7, he8, he9, he10⟩ := range11 (range_below hrz HBJ.out hgl)
                generalize cT zt y = c at hcz hz0
                have hnb : decide (c < 0) = false := by simp; omega
                have heq : (c == 0) = false := by simp; omega
                have HCZ := Lib.hid hcz
                have HRZ := Lib.hid hrz
                have HZN := Lib.hid hzn
                have hj1 : (j : Int) < (R.length : Int) := by omega
                have hd1 : decide ((j : Int) < (R.length : Int)) = true := by simp; omega
                clear hcz hrz hzn
                go_wp2
                refine region_seq 17 (Kept wr.heap.size wr) (by kernel_rfl) (by kernel_rfl) (Kept.refl _) (fun hHeld => ?_)
                repeat (first | (refine seq_take_free (v := ?_) (by kernel_rfl) rfl (fun _ _ _ h => h) hHeld ?_ ?_; rotate_left; (focus (((intro w hSw; obtain ⟨hk1, hk2⟩ := Kept.cells hSw; clear hSw; go_simp) <;> with_reducible rfl); done)); (try simp only [Act.put, List.setIfInBounds_toArray, List.set_cons_zero, List.set_cons_succ])) | (refine seq_take_on (v := ?_) (by kernel_rfl) rfl rfl rfl (fun _ _ _ h => h) hHeld ?_ ?_; rotate_left; (focus (((intro w hSw; obtain ⟨hk1, hk2⟩ := Kept.cells hSw; clear hSw; go_simp) <;> with_reducible rfl); done)); (try simp only [Act.put, List.setIfInBounds_toArray, List.set_cons_zero, List.set_cons_succ])) | (refine seq_off (by kernel_rfl) rfl rfl rfl (fun _ _ _ h => h) hHeld ?_; (try simp only [Act.put, List.setIfInBounds_toArray, List.set_cons_zero, List.set_cons_succ])))
                refine seq_call_on (by kernel_rfl) rfl rfl rfl (fun K hK => ?_)
                go_simp
                (refine (HCZ.out _ (HBJ.out.trans (hHeld.below.mono hwj))).mono ?_; rintro e w1 ⟨rfl, hb1⟩)
                refine hK.out _ _ ?_ (fun hHeld2 => ?_)
                · exact hHeld.step hb1 (Nat.le_refl _)
                clear hK K hHeld
                have hHeld := hHeld2
                clear hHeld2
                (try simp only [Act.put, List.setIfInBounds_toArray, List.set_cons_zero, List.set_cons_succ])
                repeat (first | (refine seq_take_free (v := ?_) (by kernel_rfl) rfl (fun _ _ _ h => h) hHeld ?_ ?_; rotate_left; (focus (((intro w hSw; obtain ⟨hk1, hk2⟩ := Kept.cells hSw; clear hSw; go_simp) <;> with_reducible rfl); done)); (try simp only [Act.put, List.setIfInBounds_toArray, List.set_cons_zero, List.set_cons_succ])) | (refine seq_take_on (v := ?_) (by kernel_rfl) rfl rfl rfl (fun _ _ _ h => h) hHeld ?_ ?_; rotate_left; (focus (((intro w hSw; obtain ⟨hk1, hk2⟩ := Kept.cells hSw; clear hSw; go_simp) <;> with_reducible rfl); done)); (try simp only [Act.put, List.setIfInBounds_toArray, List.set_cons_zero, List.set_cons_succ])) | (refine seq_off (by kernel_rfl) rfl rfl rfl (fun _ _ _ h => h) hHeld ?_; (try simp only [Act.put, List.setIfInBounds_toArray, List.set_cons_zero, List.set_cons_succ])))
                refine seq_done ?_
                have HB1 := Lib.hid (HBJ.out.trans (hHeld.below.mono hwj))
                have hw1s : wo.heap.size ≤ w1.heap.size := HB1.out.size
                clear hHeld hy0 hy1 hy2 hy3 hy4 hy5 hy6 hy7 hy8 hy9 hy10 he0 he1 he2 he3 he4 he5 he6 he7 he8 he9 he10
                obtain ⟨hy0, hy1, hy2, hy3, hy4, hy5, hy6, hy7, hy8, hy9, hy10⟩ := range11 (HYC.out w1 (HBQ.out.trans (HB1.out.mono hwk)))
                obtain ⟨he0, he1, he2, he3, he4, he5, he6, he7, he8, he9, he10⟩ := range11 (range_below HRZ.out HB1.out hgl)
                have hg1 : g < w1.heap.size := by omega
                have hbA1 : bA < w1.heap.size := by omega
                go_wp2
                refine region_seq 17 (Kept w1.heap.size w1) (by kernel_rfl) (by kernel_rfl) (Kept.refl _) (fun hHeld => ?_)
                repeat (first | (refine seq_take_free (v := ?_) (by kernel_rfl) rfl (fun _ _ _ h => h) hHeld ?_ ?_; rotate_left; (focus (((intro w hSw; obtain ⟨hk1, hk2⟩ := Kept.cells hSw; clear hSw; go_simp) <;> with_reducible rfl); done)); (try simp only [Act.put, List.setIfInBounds_toArray, List.set_cons_zero, List.set_cons_succ])) | (refine seq_take_on (v := ?_) (by kernel_rfl) rfl rfl rfl (fun _ _ _ h => h) hHeld ?_ ?_; rotate_left; (focus (((intro w hSw; obtain ⟨hk1, hk2⟩ := Kept.cells hSw; clear hSw; go_simp) <;> with_reducible rfl); done)); (try simp only [Act.put, List.setIfInBounds_toArray, List.set_cons_zero, List.set_cons_succ])) | (refine seq_off (by kernel_rfl) rfl rfl rfl (fun _ _ _ h => h) hHeld ?_; (try simp only [Act.put, List.setIfInBounds_toArray, List.set_cons_zero, List.set_cons_succ])))
                refine seq_call_on (by kernel_rfl) rfl rfl rfl (fun K hK => ?_)
                go_simp
                (refine (HCZ.out _ (HB1.out.trans (hHeld.below.mono hw1s))).mono ?_; rintro e w2 ⟨rfl, hb2⟩)
                refine hK.out _ _ ?_ (fun hHeld2 => ?_)
                · exact hHeld.step hb2 (Nat.le_refl _)
                clear hK K hHeld
                have hHeld := hHeld2
                clear hHeld2
                (try simp only [Act.put, List.setIfInBounds_toArray, List.set_cons_zero, List.set_cons_succ])
                repeat (first | (refine seq_take_free (v := ?_) (by kernel_rfl) rfl (fun _ _ _ h => h) hHeld ?_ ?_; rotate_left; (focus (((intro w hSw; obtain ⟨hk1, hk2⟩ := Kept.cells hSw; clear hSw; go_simp) <;> with_reducible rfl); done)); (try simp only [Act.put, List.setIfInBounds_toArray, List.set_cons_zero, List.set_cons_succ])) | (refine seq_take_on (v := ?_) (by kernel_rfl) rfl rfl rfl (fun _ _ _ h => h) hHeld ?_ ?_; rotate_left; (focus (((intro w hSw; obtain ⟨hk1, hk2⟩ := Kept.cells hSw; clear hSw; go_simp) <;> with_reducible rfl); done)); (try simp only [Act.put, List.setIfInBounds_toArray, List.set_cons_zero, List.set_cons_succ])) | (refine seq_off (by kernel_rfl) rfl rfl rfl (fun _ _ _ h => h) hHeld ?_; (try simp only [Act.put, List.setIfInBounds_toArray, List.set_cons_zero, List.set_cons_succ])))
                refine seq_done ?_
                have HB2 := Lib.hid (HB1.out.trans (hHeld.below.mono hw1s))
                have hw2s : wo.heap.size ≤ w2.heap.size := HB2.out.size
                clear hHeld hy0 hy1 hy2 hy3 hy4 hy5 hy6 hy7 hy8 hy9 hy10 he0 he1 he2 he3 he4 he5 he6 he7 he8 he9 he10
                have hnc : ¬ cap' = j := by omega
                have hj2 : (j : Int) ≤ (R.length : Int) := by omega
                have hj3 : (j : Int) ≤ (cap' : Int) := by omega
                have HBW : Hid (Below wo.heap.size wo w2) := Lib.hid (HB2.out)
                have HRP : Hid (∀ V, Below wo.heap.size wo V → Rd V wo.heap.size 12 (some ⟨g, 0, none⟩) j ((rcells rows (R.map (·.2))).take (j * 12))) := Lib.hid fun V hV => ((HROW.out.pre hple).rd wo.heap.size hgl).below hV (Nat.le_refl _)
                have HRS : Hid (∀ V, Below wo.heap.size wo V → Rd V wo.heap.size 12 (some ⟨g, j * 12, none⟩) (R.length - j) ((rcells rows (R.map (·.2))).drop (j * 12))) := Lib.hid fun V hV => (HROW.out.suf hple wo.heap.size hgl).below hV (Nat.le_refl _)
                have HONE := Lib.hid (rc_one (ns := R.map (·.2)) (TmsAt.ones _ HTMS.out))
                have HRowW : Hid (Row ((w2).alloc (.cells #[] 43)) 43 12 (w2).heap.size 0 0 []) := Lib.hid (Row.made _ 43 12 #[] 0 (by decide) rfl)
                have HBWA : Hid (Below wo.heap.size wo ((w2).alloc (.cells #[] 43))) := Lib.hid (by have hwW : wo.heap.size ≤ (w2).heap.size := HBW.out.size; exact HBW.out.alloc hwW _)
                have hwW : wo.heap.size ≤ (w2).heap.size := HBW.out.size
                go_wp2_with (first
                  | (refine wpList_pushes rfl (.tmp 79) (.tmp 82) 36 rfl 43 _ 12 160 Try.underlying36 rcount_info rfl (by omega) _ 0 0 [] (by rfl) HRowW.out wo.heap.size _ j _ _ (by rfl) (HRP.out _ HBWA.out) (fun u hu => HONE.out u (List.mem_of_mem_take hu)) (by unfold maxLen; omega) (by omega) ?_; intro g1 cap1 v1 hr1 hf1 hg1; rw [Nat.zero_add] at hr1; have hB1' : Below wo.heap.size wo v1 := HBWA.out.trans (hf1.below _ (by simp; omega) (by simp; exact hwW)); obtain ⟨hy0, hy1, hy2, hy3, hy4, hy5, hy6, hy7, hy8, hy9, hy10⟩ := range11 (HYC.out v1 (HBQ.out.trans (hB1'.mono hwk))); have HV1 := Lib.hid hB1'; have HR1 := Lib.hid hr1; have HG1 := Lib.hid hg1; clear hr1 hf1 hg1 hB1')
                  | (refine wpList_push rfl (.tmp 84) (.tmp 90) 36 rfl 43 _ 12 160 Try.underlying36 rcount_info rfl (by omega) g1 cap1 j _ (by rfl) (HR1.out.alloc _) v1.heap.size 1 1 #[y0, y1, y2, y3, y4, y5, y6, y7, y8, y9, y10, .int .i64 1] (by rfl) (by rfl) (Blk.new _ _ _) HYO.out (by omega) (by unfold maxLen; omega) (by omega) ?_; intro g2 cap2 v2 hr2 hf2 hg2; have hg1w : wo.heap.size ≤ g1 := (by rcases HG1.out with rfl | h; exact hwW; simp at h; omega); have HV2 := Lib.hid ((HV1.out.alloc HV1.out.size _).trans (hf2.below wo.heap.size (by have := HV1.out.size; simp; omega) (by simp; exact hg1w))); have HR2 := Lib.hid hr2; have HG2 := Lib.hid (show wo.heap.size ≤ g2 by rcases hg2 with rfl | h; exact hg1w; have := HV1.out.size; simp at h; omega); clear hr2 hf2 hg2)
                  | (refine wpList_pushes rfl (.tmp 92) (.tmp 95) 36 rfl 43 _ 12 160 Try.underlying36 rcount_info rfl (by omega) g2 cap2 (j + 1) _ (by rfl) HR2.out wo.heap.size _ _ _ _ (by rfl) (HRS.out _ HV2.out) (fun u hu => HONE.out u (List.mem_of_mem_drop hu)) (by unfold maxLen; omega) (by omega) ?_; intro g3 cap3 v3 hr3 hf3 hg3; have HR3 := Lib.hid hr3; have HV3 := Lib.hid (HV2.out.trans (hf3.below wo.heap.size HV2.out.size (by simp; exact HG2.out))); have HG3 := Lib.hid (show wo.heap.size ≤ g3 by rcases hg3 with rfl | h; exact HG2.out; have := HV2.out.size; omega); clear hr3 hf3 hg3))
                go_roundw
                case rel =>
                  have h11 := TmsAt.len _ HTMS.out
                  have hlen : rows.length = R.length := by have := (TmsAt.get _ HTMS.out).1; simpa using this
                  have hlN : (R.take j ++ (y, 1) :: R.drop j).length = j + 1 + (R.length - j) := by simp; omega
                  refine ⟨k + 1, g3, cap3, rows.take j ++ [y0, y1, y2, y3, y4, y5, y6, y7, y8, y9, y10] :: rows.drop j, by omega, by go_num, ?_, ?_, ?_, by have := HG3.out; omega, HBQ.out.trans (HV3.out.mono hwk)⟩
                  · rw [HSTEP.out, HINS.out, hlN]
                  · rw [HSTEP.out, HINS.out, hlN, List.map_append, List.map_cons, List.map_take, List.map_drop, ← rc_list _ j (by simpa using hlen) h11]
                    exact HR3.out
                  · rw [HSTEP.out, HINS.out, List.map_append, List.map_cons, List.map_take, List.map_drop]
                    obtain ⟨ta, tb⟩ := TmsAt.split j HTMS.out
                    have hall := (ta.append (us := y :: (R.map (·.1)).drop j) (rous := [y0, y1, y2, y3, y4, y5, y6, y7, y8, y9, y10] :: rows.drop j) (by simp only [TmsAt]; exact ⟨_, _, rfl, HTX.out.below HBQ.out hB, tb⟩))
                    exact hall.below HV3.out (Nat.le_trans hB hwk)
                case measure => simp [intOf]; omega
          · skip
            have HINS := Lib.hid hins
            have hpe1 : R.length ≤ p := by omega
            clear hins hcnt hpe
            go_wp2
            go_loopw [9] (fun v9 wq => ∃ j : Nat, j ≤ p ∧ v9 = .int .i64 j ∧ Below wo.heap.size wo wq) (fun v _ => R.length - (intOf v).toNat)
            case atStart => exact ⟨0, Nat.zero_le _, rfl, Below.refl _ _⟩
            case round =>
              obtain ⟨j, hj, rfl, hbj⟩ := hrel
              have HBJ := Lib.hid hbj
              have hwj := hbj.size
              have hj0 : (0 : Int) ≤ (j : Int) := Int.natCast_nonneg _
              have hgj : g < wr.heap.size := by omega
              have hbAj : bA < wr.heap.size := by omega
              clear hbj
              obtain ⟨hy0, hy1, hy2, hy3, hy4, hy5, hy6, hy7, hy8, hy9, hy10⟩ := range11 (HYC.out wr (HBQ.out.trans (HBJ.out.mono hwk)))
              by_cases hjp : j < p
              · have hjl : j < R.length := by omega
                have hzj : R[j]? = some R[j] := List.getElem?_eq_getElem hjl
                obtain ⟨zv0, zv1, zv2, zv3, zv4, zv5, zv6, zv7, zv8, zv9, zv10, hrz, _, hcz⟩ := HASK.out j _ hzj
                have hneg := HPLO.out j _ hjp hzj
                obtain ⟨he0, he1, he2, he3, he4, he5, he6, he7, he8, he9, he10⟩ := range11 (range_below hrz HBJ.out hgl)
                generalize cT (R[j]).1 y = c at hcz hneg
                have hnb : decide (c < 0) = true := by simpa using hneg
                have HCZ := Lib.hid hcz
                have hj1 : (j : Int) < (R.length : Int) := by omega
                have hd1 : decide ((j : Int) < (R.length : Int)) = true := by simp; omega
                clear hcz hrz hzj hneg
                go_wp2
                refine region_seq 17 (Kept wr.heap.size wr) (by kernel_rfl) (by kernel_rfl) (Kept.refl _) (fun hHeld => ?_)
                repeat (first | (refine seq_take_free (v := ?_) (by kernel_rfl) rfl (fun _ _ _ h => h) hHeld ?_ ?_; rotate_left; (focus (((intro w hSw; obtain ⟨hk1, hk2⟩ := Kept.cells hSw; clear hSw; go_simp) <;> with_reducible rfl); done)); (try simp only [Act.put, List.setIfInBounds_toArray, List.set_cons_zero, List.set_cons_succ])) | (refine seq_take_on (v := ?_) (by kernel_rfl) rfl rfl rfl (fun _ _ _ h => h) hHeld ?_ ?_; rotate_left; (focus (((intro w hSw; obtain ⟨hk1, hk2⟩ := Kept.cells hSw; clear hSw; go_simp) <;> with_reducible rfl); done)); (try simp only [Act.put, List.setIfInBounds_toArray, List.set_cons_zero, List.set_cons_succ])) | (refine seq_off (by kernel_rfl) rfl rfl rfl (fun _ _ _ h => h) hHeld ?_; (try simp only [Act.put, List.setIfInBounds_toArray, List.set_cons_zero, List.set_cons_succ])))
                refine seq_call_on (by kernel_rfl) rfl rfl rfl (fun K hK => ?_)
                go_simp
                (refine (HCZ.out _ (HBJ.out.trans (hHeld.below.mono hwj))).mono ?_; rintro e w1 ⟨rfl, hb1⟩)
                refine hK.out _ _ ?_ (fun hHeld2 => ?_)
                · exact hHeld.step hb1 (Nat.le_refl _)
                clear hK K hHeld
                have hHeld := hHeld2
                clear hHeld2
                (try simp only [Act.put, List.setIfInBounds_toArray, List.set_cons_zero, List.set_cons_succ])
                repeat (first | (refine seq_take_free (v := ?_) (by kernel_rfl) rfl (fun _ _ _ h => h) hHeld ?_ ?_; rotate_left; (focus (((intro w hSw; obtain ⟨hk1, hk2⟩ := Kept.cells hSw; clear hSw; go_simp) <;> with_reducible rfl); done)); (try simp only [Act.put, List.setIfInBounds_toArray, List.set_cons_zero, List.set_cons_succ])) | (refine seq_take_on (v := ?_) (by kernel_rfl) rfl rfl rfl (fun _ _ _ h => h) hHeld ?_ ?_; rotate_left; (focus (((intro w hSw; obtain ⟨hk1, hk2⟩ := Kept.cells hSw; clear hSw; go_simp) <;> with_reducible rfl); done)); (try simp only [Act.put, List.setIfInBounds_toArray, List.set_cons_zero, List.set_cons_succ])) | (refine seq_off (by kernel_rfl) rfl rfl rfl (fun _ _ _ h => h) hHeld ?_; (try simp only [Act.put, List.setIfInBounds_toArray, List.set_cons_zero, List.set_cons_succ])))
                refine seq_done ?_
                go_wp2
                go_roundw
                case rel => exact ⟨j + 1, by omega, by go_num, HBJ.out.trans (hHeld.below.mono hwj)⟩
                case measure => simp [intOf]; omega
              · obtain rfl : j = p := by omega
                have hd1 : decide ((j : Int) < (R.length : Int)) = false := by simp; omega
                have hdn : decide (j < R.length) = false := by simp; omega
                have hj2 : (j : Int) ≤ (R.length : Int) := by omega
                have hj3 : (j : Int) ≤ (cap' : Int) := by omega
                by_cases hnc : cap' = j
                · subst hnc
                  go_wp2
                  refine region_seq 17 (Kept wr.heap.size wr) (by kernel_rfl) (by kernel_rfl) (Kept.refl _) (fun hHeld => ?_)
                  repeat (first | (refine seq_take_free (v := ?_) (by kernel_rfl) rfl (fun _ _ _ h => h) hHeld ?_ ?_; rotate_left; (focus (((intro w hSw; obtain ⟨hk1, hk2⟩ := Kept.cells hSw; clear hSw; go_simp) <;> with_reducible rfl); done)); (try simp only [Act.put, List.setIfInBounds_toArray, List.set_cons_zero, List.set_cons_succ])) | (refine seq_take_on (v := ?_) (by kernel_rfl) rfl rfl rfl (fun _ _ _ h => h) hHeld ?_ ?_; rotate_left; (focus (((intro w hSw; obtain ⟨hk1, hk2⟩ := Kept.cells hSw; clear hSw; go_simp) <;> with_reducible rfl); done)); (try simp only [Act.put, List.setIfInBounds_toArray, List.set_cons_zero, List.set_cons_succ])) | (refine seq_off (by kernel_rfl) rfl rfl rfl (fun _ _ _ h => h) hHeld ?_; (try simp only [Act.put, List.setIfInBounds_toArray, List.set_cons_zero, List.set_cons_succ])))
                  refine seq_done ?_
                  go_wp2
                  refine region_seq 17 (Kept wr.drew.heap.size wr.drew) (by kernel_rfl) (by kernel_rfl) (Kept.refl _) (fun hHeld => ?_)
                  repeat (first | (refine seq_take_free (v := ?_) (by kernel_rfl) rfl (fun _ _ _ h => h) hHeld ?_ ?_; rotate_left; (focus (((intro w hSw; obtain ⟨hk1, hk2⟩ := Kept.cells hSw; clear hSw; go_simp) <;> with_reducible rfl); done)); (try simp only [Act.put, List.setIfInBounds_toArray, List.set_cons_zero, List.set_cons_succ])) | (refine seq_take_on (v := ?_) (by kernel_rfl) rfl rfl rfl (fun _ _ _ h => h) hHeld ?_ ?_; rotate_left; (focus (((intro w hSw; obtain ⟨hk1, hk2⟩ := Kept.cells hSw; clear hSw; go_simp) <;> with_reducible rfl); done)); (try simp only [Act.put, List.setIfInBounds_toArray, List.set_cons_zero, List.set_cons_succ])) | (refine seq_off (by kernel_rfl) rfl rfl rfl (fun _ _ _ h => h) hHeld ?_; (try simp only [Act.put, List.setIfInBounds_toArray, List.set_cons_zero, List.set_cons_succ])))
                  refine seq_done ?_
                  have HBW : Hid (Below wo.heap.size wo wr) := Lib.hid (HBJ.out)
                  have HRP : Hid (∀ V, Below wo.heap.size wo V → Rd V wo.heap.size 12 (some ⟨g, 0, none⟩) cap' ((rcells rows (R.map (·.2))).take (cap' * 12))) := Lib.hid fun V hV => ((HROW.out.pre hple).rd wo.heap.size hgl).below hV (Nat.le_refl _)
                  have HRS : Hid (∀ V, Below wo.heap.size wo V → Rd V wo.heap.size 12 (some ⟨g, cap' * 12, none⟩) (R.length - cap') ((rcells rows (R.map (·.2))).drop (cap' * 12))) := Lib.hid fun V hV => (HROW.out.suf hple wo.heap.size hgl).below hV (Nat.le_refl _)
                  have HONE := Lib.hid (rc_one (ns := R.map (·.2)) (TmsAt.ones _ HTMS.out))
                  have HRowW : Hid (Row ((wr.alloc (.cells #[] 43)).drew.drew) 43 12 (wr).heap.size 0 0 []) := Lib.hid ((Row.made wr 43 12 #[] 0 (by decide) rfl).drew.drew)
                  have HBWA : Hid (Below wo.heap.size wo ((wr.alloc (.cells #[] 43)).drew.drew)) := Lib.hid (by have hwW : wo.heap.size ≤ (wr).heap.size := HBW.out.size; exact (HBJ.out.alloc (by exact HBJ.out.size) _).drew.drew)
                  have hwW : wo.heap.size ≤ (wr).heap.size := HBW.out.size
                  go_wp2_with (first
                    | (refine wpList_pushes rfl (.tmp 79) (.tmp 82) 36 rfl 43 _ 12 160 Try.underlying36 rcount_info rfl (by omega) _ 0 0 [] (by rfl) HRowW.out wo.heap.size _ cap' _ _ (by rfl) (HRP.out _ HBWA.out) (fun u hu => HONE.out u (List.mem_of_mem_take hu)) (by unfold maxLen; omega) (by omega) ?_; intro g1 cap1 v1 hr1 hf1 hg1; rw [Nat.zero_add] at hr1; have hB1' : Below wo.heap.size wo v1 := HBWA.out.trans (hf1.below _ (by simp; omega) (by simp; exact hwW)); obtain ⟨hy0, hy1, hy2, hy3, hy4, hy5, hy6, hy7, hy8, hy9, hy10⟩ := range11 (HYC.out v1 (HBQ.out.trans (hB1'.mono hwk))); have HV1 := Lib.hid hB1'; have HR1 := Lib.hid hr1; have HG1 := Lib.hid hg1; clear hr1 hf1 hg1 hB1')
                    | (refine wpList_push rfl (.tmp 84) (.tmp 90) 36 rfl 43 _ 12 160 Try.underlying36 rcount_info rfl (by omega) g1 cap1 cap' _ (by rfl) (HR1.out.alloc _) v1.heap.size 1 1 #[y0, y1, y2, y3, y4, y5, y6, y7, y8, y9, y10, .int .i64 1] (by rfl) (by rfl) (Blk.new _ _ _) HYO.out (by omega) (by unfold maxLen; omega) (by omega) ?_; intro g2 cap2 v2 hr2 hf2 hg2; have hg1w : wo.heap.size ≤ g1 := (by rcases HG1.out with rfl | h; exact hwW; simp at h; omega); have HV2 := Lib.hid ((HV1.out.alloc HV1.out.size _).trans (hf2.below wo.heap.size (by have := HV1.out.size; simp; omega) (by simp; exact hg1w))); have HR2 := Lib.hid hr2; have HG2 := Lib.hid (show wo.heap.size ≤ g2 by rcases hg2 with rfl | h; exact hg1w; have := HV1.out.size; simp at h; omega); clear hr2 hf2 hg2)
                    | (refine wpList_pushes rfl (.tmp 92) (.tmp 95) 36 rfl 43 _ 12 160 Try.underlying36 rcount_info rfl (by omega) g2 cap2 (cap' + 1) _ (by rfl) HR2.out wo.heap.size _ 0 _ [] (by rfl) Rd.nil (fun u hu => by simp at hu) (by unfold maxLen; omega) (by omega) ?_; intro g3 cap3 v3 hr3 hf3 hg3; have HR3 := Lib.hid hr3; have HV3 := Lib.hid (HV2.out.trans (hf3.below wo.heap.size HV2.out.size (by simp; exact HG2.out))); have HG3 := Lib.hid (show wo.heap.size ≤ g3 by rcases hg3 with rfl | h; exact HG2.out; have := HV2.out.size; omega); clear hr3 hf3 hg3))
                  go_roundw
                  case rel =>
                    have h11 := TmsAt.len _ HTMS.out
                    have hlen : rows.length = R.length := by have := (TmsAt.get _ HTMS.out).1; simpa using this
                    have hdr : (rcells rows (R.map (·.2))).drop (cap' * 12) = [] := List.drop_of_length_le (by rw [rc_len (by simpa using hlen) h11]; simp; omega)
                    have hlN : (R.take cap' ++ (y, 1) :: R.drop cap').length = cap' + 1 := by simp; omega
                    refine ⟨k + 1, g3, cap3, rows.take cap' ++ [y0, y1, y2, y3, y4, y5, y6, y7, y8, y9, y10] :: rows.drop cap', by omega, by go_num, ?_, ?_, ?_, by have := HG3.out; omega, HBQ.out.trans (HV3.out.mono hwk)⟩
                    · rw [HSTEP.out, HINS.out, hlN]
                    · rw [HSTEP.out, HINS.out, hlN, List.map_append, List.map_cons, List.map_take, List.map_drop, ← rc_list _ cap' (by simpa using hlen) h11]
                      rw [hdr]; simpa using HR3.out
                    · rw [HSTEP.out, HINS.out, List.map_append, List.map_cons, List.map_take, List.map_drop]
                      obtain ⟨ta, tb⟩ := TmsAt.split cap' HTMS.out
                      have hall := (ta.append (us := y :: (R.map (·.1)).drop cap') (rous := [y0, y1, y2, y3, y4, y5, y6, y7, y8, y9, y10] :: rows.drop cap') (by simp only [TmsAt]; exact ⟨_, _, rfl, HTX.out.below HBQ.out hB, tb⟩))
                      exact hall.below HV3.out (Nat.le_trans hB hwk)
                  case measure => simp [intOf]; omega
                · go_wp2
                  refine region_seq 17 (Kept wr.heap.size wr) (by kernel_rfl) (by kernel_rfl) (Kept.refl _) (fun hHeld => ?_)
                  repeat (first | (refine seq_take_free (v := ?_) (by kernel_rfl) rfl (fun _ _ _ h => h) hHeld ?_ ?_; rotate_left; (focus (((intro w hSw; obtain ⟨hk1, hk2⟩ := Kept.cells hSw; clear hSw; go_simp) <;> with_reducible rfl); done)); (try simp only [Act.put, List.setIfInBounds_toArray, List.set_cons_zero, List.set_cons_succ])) | (refine seq_take_on (v := ?_) (by kernel_rfl) rfl rfl rfl (fun _ _ _ h => h) hHeld ?_ ?_; rotate_left; (focus (((intro w hSw; obtain ⟨hk1, hk2⟩ := Kept.cells hSw; clear hSw; go_simp) <;> with_reducible rfl); done)); (try simp only [Act.put, List.setIfInBounds_toArray, List.set_cons_zero, List.set_cons_succ])) | (refine seq_off (by kernel_rfl) rfl rfl rfl (fun _ _ _ h => h) hHeld ?_; (try simp only [Act.put, List.setIfInBounds_toArray, List.set_cons_zero, List.set_cons_succ])))
                  refine seq_done ?_
                  go_wp2
                  refine region_seq 17 (Kept wr.drew.heap.size wr.drew) (by kernel_rfl) (by kernel_rfl) (Kept.refl _) (fun hHeld => ?_)
                  repeat (first | (refine seq_take_free (v := ?_) (by kernel_rfl) rfl (fun _ _ _ h => h) hHeld ?_ ?_; rotate_left; (focus (((intro w hSw; obtain ⟨hk1, hk2⟩ := Kept.cells hSw; clear hSw; go_simp) <;> with_reducible rfl); done)); (try simp only [Act.put, List.setIfInBounds_toArray, List.set_cons_zero, List.set_cons_succ])) | (refine seq_take_on (v := ?_) (by kernel_rfl) rfl rfl rfl (fun _ _ _ h => h) hHeld ?_ ?_; rotate_left; (focus (((intro w hSw; obtain ⟨hk1, hk2⟩ := Kept.cells hSw; clear hSw; go_simp) <;> with_reducible rfl); done)); (try simp only [Act.put, List.setIfInBounds_toArray, List.set_cons_zero, List.set_cons_succ])) | (refine seq_off (by kernel_rfl) rfl rfl rfl (fun _ _ _ h => h) hHeld ?_; (try simp only [Act.put, List.setIfInBounds_toArray, List.set_cons_zero, List.set_cons_succ])))
                  refine seq_done ?_
                  have HBW : Hid (Below wo.heap.size wo wr) := Lib.hid (HBJ.out)
                  have HRP : Hid (∀ V, Below wo.heap.size wo V → Rd V wo.heap.size 12 (some ⟨g, 0, none⟩) j ((rcells rows (R.map (·.2))).take (j * 12))) := Lib.hid fun V hV => ((HROW.out.pre hple).rd wo.heap.size hgl).below hV (Nat.le_refl _)
                  have HRS : Hid (∀ V, Below wo.heap.size wo V → Rd V wo.heap.size 12 (some ⟨g, j * 12, none⟩) (R.length - j) ((rcells rows (R.map (·.2))).drop (j * 12))) := Lib.hid fun V hV => (HROW.out.suf hple wo.heap.size hgl).below hV (Nat.le_refl _)
                  have HONE := Lib.hid (rc_one (ns := R.map (·.2)) (TmsAt.ones _ HTMS.out))
                  have HRowW : Hid (Row ((wr.alloc (.cells #[] 43)).drew.drew) 43 12 (wr).heap.size 0 0 []) := Lib.hid ((Row.made wr 43 12 #[] 0 (by decide) rfl).drew.drew)
                  have HBWA : Hid (Below wo.heap.size wo ((wr.alloc (.cells #[] 43)).drew.drew)) := Lib.hid (by have hwW : wo.heap.size ≤ (wr).heap.size := HBW.out.size; exact (HBJ.out.alloc (by exact HBJ.out.size) _).drew.drew)
                  have hwW : wo.heap.size ≤ (wr).heap.size := HBW.out.size
                  go_wp2_with (first
                    | (refine wpList_pushes rfl (.tmp 79) (.tmp 82) 36 rfl 43 _ 12 160 Try.underlying36 rcount_info rfl (by omega) _ 0 0 [] (by rfl) HRowW.out wo.heap.size _ j _ _ (by rfl) (HRP.out _ HBWA.out) (fun u hu => HONE.out u (List.mem_of_mem_take hu)) (by unfold maxLen; omega) (by omega) ?_; intro g1 cap1 v1 hr1 hf1 hg1; rw [Nat.zero_add] at hr1; have hB1' : Below wo.heap.size wo v1 := HBWA.out.trans (hf1.below _ (by simp; omega) (by simp; exact hwW)); obtain ⟨hy0, hy1, hy2, hy3, hy4, hy5, hy6, hy7, hy8, hy9, hy10⟩ := range11 (HYC.out v1 (HBQ.out.trans (hB1'.mono hwk))); have HV1 := Lib.hid hB1'; have HR1 := Lib.hid hr1; have HG1 := Lib.hid hg1; clear hr1 hf1 hg1 hB1')
                    | (refine wpList_push rfl (.tmp 84) (.tmp 90) 36 rfl 43 _ 12 160 Try.underlying36 rcount_info rfl (by omega) g1 cap1 j _ (by rfl) (HR1.out.alloc _) v1.heap.size 1 1 #[y0, y1, y2, y3, y4, y5, y6, y7, y8, y9, y10, .int .i64 1] (by rfl) (by rfl) (Blk.new _ _ _) HYO.out (by omega) (by unfold maxLen; omega) (by omega) ?_; intro g2 cap2 v2 hr2 hf2 hg2; have hg1w : wo.heap.size ≤ g1 := (by rcases HG1.out with rfl | h; exact hwW; simp at h; omega); have HV2 := Lib.hid ((HV1.out.alloc HV1.out.size _).trans (hf2.below wo.heap.size (by have := HV1.out.size; simp; omega) (by simp; exact hg1w))); have HR2 := Lib.hid hr2; have HG2 := Lib.hid (show wo.heap.size ≤ g2 by rcases hg2 with rfl | h; exact hg1w; have := HV1.out.size; simp at h; omega); clear hr2 hf2 hg2)
                    | (refine wpList_pushes rfl (.tmp 92) (.tmp 95) 36 rfl 43 _ 12 160 Try.underlying36 rcount_info rfl (by omega) g2 cap2 (j + 1) _ (by rfl) HR2.out wo.heap.size _ 0 _ [] (by rfl) Rd.nil (fun u hu => by simp at hu) (by unfold maxLen; omega) (by omega) ?_; intro g3 cap3 v3 hr3 hf3 hg3; have HR3 := Lib.hid hr3; have HV3 := Lib.hid (HV2.out.trans (hf3.below wo.heap.size HV2.out.size (by simp; exact HG2.out))); have HG3 := Lib.hid (show wo.heap.size ≤ g3 by rcases hg3 with rfl | h; exact HG2.out; have := HV2.out.size; omega); clear hr3 hf3 hg3))
                  go_roundw
                  case rel =>
                    have h11 := TmsAt.len _ HTMS.out
                    have hlen : rows.length = R.length := by have := (TmsAt.get _ HTMS.out).1; simpa using this
                    have hdr : (rcells rows (R.map (·.2))).drop (j * 12) = [] := List.drop_of_length_le (by rw [rc_len (by simpa using hlen) h11]; simp; omega)
                    have hlN : (R.take j ++ (y, 1) :: R.drop j).length = j + 1 := by simp; omega
                    refine ⟨k + 1, g3, cap3, rows.take j ++ [y0, y1, y2, y3, y4, y5, y6, y7, y8, y9, y10] :: rows.drop j, by omega, by go_num, ?_, ?_, ?_, by have := HG3.out; omega, HBQ.out.trans (HV3.out.mono hwk)⟩
                    · rw [HSTEP.out, HINS.out, hlN]
                    · rw [HSTEP.out, HINS.out, hlN, List.map_append, List.map_cons, List.map_take, List.map_drop, ← rc_list _ j (by simpa using hlen) h11]
                      rw [hdr]; simpa using HR3.out
                    · rw [HSTEP.out, HINS.out, List.map_append, List.map_cons, List.map_take, List.map_drop]
                      obtain ⟨ta, tb⟩ := TmsAt.split j HTMS.out
                      have hall := (ta.append (us := y :: (R.map (·.1)).drop j) (rous := [y0, y1, y2, y3, y4, y5, y6, y7, y8, y9, y10] :: rows.drop j) (by simp only [TmsAt]; exact ⟨_, _, rfl, HTX.out.below HBQ.out hB, tb⟩))
                      exact hall.below HV3.out (Nat.le_trans hB hwk)
                  case measure => simp [intOf]; omega
        · obtain rfl : k = l.length := by omega
          go_wp2
          go_ret2
          rw [List.take_of_length_le (Nat.le_refl _)] at hrow htms
          exact ⟨g, cap', rows, by rw [List.take_of_length_le (Nat.le_refl _)]; rfl, hrow, htms, hgw, HBQ.out⟩
end Go.Proofs.Ythanmakakcmkeaa
