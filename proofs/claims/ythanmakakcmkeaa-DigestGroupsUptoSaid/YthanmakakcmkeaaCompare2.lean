/- tenonref01.fields, Compare over lists, dicts, records; Compare whole. -/
import Derived.Test.YthanmakakcmkeaaCompare
import Derived.Test.YthanmakakcmkeaaReg
namespace Go.Proofs.Ythanmakakcmkeaa
open Go.RowKit

theorem builds_get {ts : List Tm} {k : Nat} (h : k < ts.length) : ∃ h' : k < (builds ts).length, (builds ts)[k] = build ts[k] := by
  have : k < (builds ts).length := by simp [builds_map]; exact h
  exact ⟨this, by simp [builds_map]⟩
theorem builds_len (ts : List Tm) : (builds ts).length = ts.length := by simp [builds_map]

/-- entry k of a slice of entries: its name's cell, its term's cells -/
theorem entry_at {w : World} {B b off n : Nat} {ns : List ByteArray} {rows : List (List Value)} (hr : Rd w B 12 (some ⟨b, off, none⟩) n (entRows ns rows)) (h11 : ∀ r ∈ rows, r.length = 11) (hl : ns.length = rows.length) (hn : ns.length = n) (k : Nat) (hk : k < n) :
    w.cell? ⟨b, off + k * 12, none⟩ = some (.string (ns.getD k ByteArray.empty)) ∧ ∀ r, rows[k]? = some r → w.rangeAt b (off + k * 12 + 1) r := by
  refine ⟨entry_names hr h11 hl hn k hk, fun r hrk j x hj => ?_⟩
  obtain ⟨b', o', he, _, hc⟩ := hr.2 (by omega)
  simp only [Option.some.injEq, Addr.mk.injEq, and_true] at he
  obtain ⟨rfl, rfl⟩ := he
  have hj11 : j < 11 := by have := (List.getElem?_eq_some_iff.1 hj).1; rw [h11 r (List.mem_of_getElem? hrk)] at this; exact this
  have h1 : ns[k]? = some (ns.getD k ByteArray.empty) := by simp [List.getElem?_eq_getElem (show k < ns.length by omega)]
  have := hc (k * 12 + (j + 1)) (by omega)
  rw [entRows_get ns rows h11 hl k _ _ h1 hrk (j + 1) (by omega)] at this
  rw [show off + k * 12 + 1 + j = off + (k * 12 + (j + 1)) by omega, this]
  simpa using hj

set_option maxRecDepth 100000 in
set_option maxHeartbeats 8000000 in
theorem rfields_any (ts us : List Tm) (ns ms : List ByteArray) (rows rous : List (List Value)) (A C : Option Addr) (c1 c2 : Nat) (w : World) (B : Nat) (hB : B ≤ w.heap.size)
    (h1 : Rd w B 12 A ts.length (entRows ns rows)) (h2 : Rd w B 12 C us.length (entRows ms rous)) (t1 : TmsAt w B ts rows) (t2 : TmsAt w B us rous) (hns : ns.length = ts.length) (hms : ms.length = us.length)
    (hl1 : ts.length ≤ 1048576) (hl2 : us.length ≤ 1048576) (ga : goodsV (builds ts)) (gb : goodsV (builds us)) (ih : ∀ t ∈ ts, CmpAt t) (r : Int) (hr : cmpF (builds ts) ns ms (builds us) = r) :
    Calls Try.prog 59 #[.slice A ts.length c1, .slice C us.length c2] w (Gives r w) := by
  have H1 := Lib.hid h1
  have H2 := Lib.hid h2
  have T1 := Lib.hid t1
  have T2 := Lib.hid t2
  have HR := Lib.hid hr
  have GA := Lib.hid (goodsV_get _ ga)
  have GB := Lib.hid (goodsV_get _ gb)
  have HIH := Lib.hid ih
  have HNS := Lib.hid hns
  have HMS := Lib.hid hms
  have HTX := Lib.hid rtexts_any
  have HN := Lib.hid rnumbers_any
  have hw1 : IntKind.u64.wrap (ts.length : Int) = ts.length := by rw [IntKind.wrap_u64]; omega
  have hw2 : IntKind.u64.wrap (us.length : Int) = us.length := by rw [IntKind.wrap_u64]; omega
  clear h1 h2 hr t1 t2 ga gb ih hns hms
  go_enter Try.func59, Try.ntmps59
  go_wp2
  go_loopw [5, 6, 7] (fun v5 v6 v7 wr => ∃ k : Nat, k ≤ ts.length ∧ k ≤ us.length ∧ v5 = .int .i64 k ∧ cmpF ((builds ts).drop k) (ns.drop k) (ms.drop k) ((builds us).drop k) = r ∧ Below w.heap.size w wr) (fun v _ _ _ => ts.length - (intOf v).toNat)
  case atStart => exact ⟨0, by omega, by omega, rfl, by simpa using HR.out, Below.refl _ _⟩
  case round =>
    obtain ⟨k, hk, hkb, rfl, heq, hbl⟩ := hrel
    have HEQ := Lib.hid heq
    have HBL := Lib.hid hbl
    clear heq hbl
    have hk0 : (0 : Int) ≤ (k : Int) := Int.natCast_nonneg _
    have hbs := HBL.out.size
    by_cases hlt : k < ts.length
    · have hk1 : (k : Int) < (ts.length : Int) := by omega
      have hd1 : decide ((k : Int) < (ts.length : Int)) = true := by simp; omega
      by_cases hlb : k < us.length
      · have hk2 : (k : Int) < (us.length : Int) := by omega
        have hd2 : decide ((k : Int) < (us.length : Int)) = true := by simp; omega
        obtain ⟨bA, off, rfl, hbA, _⟩ := H1.out.2 (by omega)
        obtain ⟨bC, ofc, rfl, hbC, _⟩ := H2.out.2 (by omega)
        obtain ⟨hrl1, hget1⟩ := TmsAt.get ts T1.out
        obtain ⟨hrl2, hget2⟩ := TmsAt.get us T2.out
        obtain ⟨x, hx, htx⟩ := hget1 k ts[k] (by simp [hlt])
        obtain ⟨y, hy, hty⟩ := hget2 k us[k] (by simp [hlb])
        have h11a := TmsAt.len ts T1.out
        have h11b := TmsAt.len us T2.out
        obtain ⟨hnA, hcA⟩ := entry_at (H1.out.below HBL.out hB) h11a (by have := HNS.out; omega) HNS.out k hlt
        obtain ⟨hnC, hcC⟩ := entry_at (H2.out.below HBL.out hB) h11b (by have := HMS.out; omega) HMS.out k hlb
        have hcells1 := hcA x hx
        have hcells2 := hcC y hy
        obtain ⟨q0, q1, q2, q3, q4, q5, q6, q7, q8, q9, q10, rfl⟩ := list11 (h11a x (List.mem_of_getElem? hx))
        obtain ⟨p0, p1, p2, p3, p4, p5, p6, p7, p8, p9, p10, rfl⟩ := list11 (h11b y (List.mem_of_getElem? hy))
        obtain ⟨hg1, hgt1⟩ := builds_get hlt
        obtain ⟨hg2, hgt2⟩ := builds_get hlb
        have hstep := HEQ.out
        rw [cmpF_drop hg1 hg2, hgt1, hgt2] at hstep
        have ggx := GA.out _ (List.getElem_mem hg1)
        have ggy := GB.out _ (List.getElem_mem hg2)
        rw [hgt1] at ggx
        rw [hgt2] at ggy
        have hcc : CmpAt ts[k] := HIH.out _ (List.getElem_mem hlt)
        generalize ns.getD k ByteArray.empty = n at hnA hstep
        generalize ms.getD k ByteArray.empty = m at hnC hstep
        unfold cmp1 at hstep
        have hT := HTX.out n m
        generalize cmpT n m = t at hT hstep
        have HT := Lib.hid hT
        have HSTEP := Lib.hid hstep
        have HCC : Hid (∀ W, Below w.heap.size w W → Calls Try.prog 37 #[.agg #[q0, q1, q2, q3, q4, q5, q6, q7, q8, q9, q10], .agg #[p0, p1, p2, p3, p4, p5, p6, p7, p8, p9, p10]] W (Gives (cmpV (build ts[k]) (build us[k])) W)) :=
          Lib.hid fun W hW => hcc us[k] _ _ W B (Nat.le_trans hB hW.size) (htx.below hW hB) (hty.below hW hB) ggx ggy
        have HC1 := Lib.hid hcells1
        have HC2 := Lib.hid hcells2
        clear hstep hT hcells1 hcells2 hcA hcC hget1 hget2 hx hy htx hty ggx ggy hcc hrl1 hrl2 h11a h11b
        by_cases ht : t = 0
        · subst ht
          go_wp2
          go_quiet (first | (go_at_call 58; refine Calls.quiet_of_same (HT.out _)))
          go_wp2
          obtain ⟨W, hW⟩ : ∃ W, W = wr.drewN nq := ⟨_, rfl⟩
          have HBW : Hid (Below w.heap.size w W) := Lib.hid (by rw [hW]; exact below_drewN HBL.out nq)
          obtain ⟨hc0, hc1, hc2, hc3, hc4, hc5, hc6, hc7, hc8, hc9, hc10⟩ := range11 (show W.rangeAt bA (off + k * 12 + 1) _ by rw [hW]; exact HC1.out)
          obtain ⟨he0, he1, he2, he3, he4, he5, he6, he7, he8, he9, he10⟩ := range11 (show W.rangeAt bC (ofc + k * 12 + 1) _ by rw [hW]; exact HC2.out)
          rw [← hW]
          clear hW nq hnA hnC
          have hcall := HCC.out W.drew HBW.out.drew
          have hst := HSTEP.out
          simp only [if_true] at hst
          generalize cmpV (build ts[k]) (build us[k]) = z at hcall hst
          have HCALL : Hid (∀ V, V = W.drew → Calls Try.prog 37 #[.agg #[q0, q1, q2, q3, q4, q5, q6, q7, q8, q9, q10], .agg #[p0, p1, p2, p3, p4, p5, p6, p7, p8, p9, p10]] V (Gives z V)) := Lib.hid fun V hV => by rw [hV]; exact hcall
          have HST := Lib.hid hst
          clear hcall hst
          by_cases hz : z = 0
          · subst hz
            refine wp_region_held_drew (S := (fun w' => w'.cell? ⟨bA, off + k * 12 + 1, none⟩ = some q0 ∧ w'.cell? ⟨bA, off + k * 12 + 1 + 1, none⟩ = some q1 ∧ w'.cell? ⟨bA, off + k * 12 + 1 + 2, none⟩ = some q2 ∧ w'.cell? ⟨bA, off + k * 12 + 1 + 3, none⟩ = some q3 ∧ w'.cell? ⟨bA, off + k * 12 + 1 + 4, none⟩ = some q4 ∧ w'.cell? ⟨bA, off + k * 12 + 1 + 5, none⟩ = some q5 ∧ w'.cell? ⟨bA, off + k * 12 + 1 + 6, none⟩ = some q6 ∧ w'.cell? ⟨bA, off + k * 12 + 1 + 7, none⟩ = some q7 ∧ w'.cell? ⟨bA, off + k * 12 + 1 + 8, none⟩ = some q8 ∧ w'.cell? ⟨bA, off + k * 12 + 1 + 9, none⟩ = some q9 ∧ w'.cell? ⟨bA, off + k * 12 + 1 + 10, none⟩ = some q10 ∧ w'.cell? ⟨bC, ofc + k * 12 + 1, none⟩ = some p0 ∧ w'.cell? ⟨bC, ofc + k * 12 + 1 + 1, none⟩ = some p1 ∧ w'.cell? ⟨bC, ofc + k * 12 + 1 + 2, none⟩ = some p2 ∧ w'.cell? ⟨bC, ofc + k * 12 + 1 + 3, none⟩ = some p3 ∧ w'.cell? ⟨bC, ofc + k * 12 + 1 + 4, none⟩ = some p4 ∧ w'.cell? ⟨bC, ofc + k * 12 + 1 + 5, none⟩ = some p5 ∧ w'.cell? ⟨bC, ofc + k * 12 + 1 + 6, none⟩ = some p6 ∧ w'.cell? ⟨bC, ofc + k * 12 + 1 + 7, none⟩ = some p7 ∧ w'.cell? ⟨bC, ofc + k * 12 + 1 + 8, none⟩ = some p8 ∧ w'.cell? ⟨bC, ofc + k * 12 + 1 + 9, none⟩ = some p9 ∧ w'.cell? ⟨bC, ofc + k * 12 + 1 + 10, none⟩ = some p10)) (by kernel_rfl) ⟨hc0, hc1, hc2, hc3, hc4, hc5, hc6, hc7, hc8, hc9, hc10, he0, he1, he2, he3, he4, he5, he6, he7, he8, he9, he10⟩ (fun hHeld => ?_)
            refine held_take (i := 0) (v := ?_) rfl (by kernel_rfl) (by kernel_rfl) (by kernel_rfl) (fun _ _ _ h => h) (by kernel_rfl) ?_ hHeld ?_; rotate_left; focus (((intro w hSw; (try dsimp only at hSw); go_simp) <;> with_reducible rfl); done)
            (try simp only [Act.put, List.setIfInBounds_toArray, List.set_cons_zero, List.set_cons_succ])
            refine held_take (i := 1) (v := ?_) rfl (by kernel_rfl) (by kernel_rfl) (by kernel_rfl) (fun _ _ _ h => h) (by kernel_rfl) ?_ hHeld ?_; rotate_left; focus (((intro w hSw; (try dsimp only at hSw); go_simp) <;> with_reducible rfl); done)
            (try simp only [Act.put, List.setIfInBounds_toArray, List.set_cons_zero, List.set_cons_succ])
            refine held_take (i := 2) (v := ?_) rfl (by kernel_rfl) (by kernel_rfl) (by kernel_rfl) (fun _ _ _ h => h) (by kernel_rfl) ?_ hHeld ?_; rotate_left; focus (((intro w hSw; (try dsimp only at hSw); go_simp) <;> with_reducible rfl); done)
            (try simp only [Act.put, List.setIfInBounds_toArray, List.set_cons_zero, List.set_cons_succ])
            refine held_take (i := 3) (v := ?_) rfl (by kernel_rfl) (by kernel_rfl) (by kernel_rfl) (fun _ _ _ h => h) (by kernel_rfl) ?_ hHeld ?_; rotate_left; focus (((intro w hSw; (try dsimp only at hSw); go_simp) <;> with_reducible rfl); done)
            (try simp only [Act.put, List.setIfInBounds_toArray, List.set_cons_zero, List.set_cons_succ])
            refine held_take (i := 4) (v := ?_) rfl (by kernel_rfl) (by kernel_rfl) (by kernel_rfl) (fun _ _ _ h => h) (by kernel_rfl) ?_ hHeld ?_; rotate_left; focus (((intro w hSw; (try dsimp only at hSw); go_simp) <;> with_reducible rfl); done)
            (try simp only [Act.put, List.setIfInBounds_toArray, List.set_cons_zero, List.set_cons_succ])
            refine held_take (i := 5) (v := ?_) rfl (by kernel_rfl) (by kernel_rfl) (by kernel_rfl) (fun _ _ _ h => h) (by kernel_rfl) ?_ hHeld ?_; rotate_left; focus (((intro w hSw; (try dsimp only at hSw); go_simp) <;> with_reducible rfl); done)
            (try simp only [Act.put, List.setIfInBounds_toArray, List.set_cons_zero, List.set_cons_succ])
            refine held_take (i := 6) (v := ?_) rfl (by kernel_rfl) (by kernel_rfl) (by kernel_rfl) (fun _ _ _ h => h) (by kernel_rfl) ?_ hHeld ?_; rotate_left; focus (((intro w hSw; (try dsimp only at hSw); go_simp) <;> with_reducible rfl); done)
            (try simp only [Act.put, List.setIfInBounds_toArray, List.set_cons_zero, List.set_cons_succ])
            refine held_take (i := 7) (v := ?_) rfl (by kernel_rfl) (by kernel_rfl) (by kernel_rfl) (fun _ _ _ h => h) (by kernel_rfl) ?_ hHeld ?_; rotate_left; focus (((intro w hSw; (try dsimp only at hSw); go_simp) <;> with_reducible rfl); done)
            (try simp only [Act.put, List.setIfInBounds_toArray, List.set_cons_zero, List.set_cons_succ])
            refine held_take (i := 8) (v := ?_) rfl (by kernel_rfl) (by kernel_rfl) (by kernel_rfl) (fun _ _ _ h => h) (by kernel_rfl) ?_ hHeld ?_; rotate_left; focus (((intro w hSw; (try dsimp only at hSw); go_simp) <;> with_reducible rfl); done)
            (try simp only [Act.put, List.setIfInBounds_toArray, List.set_cons_zero, List.set_cons_succ])
            refine held_take (i := 9) (v := ?_) rfl (by kernel_rfl) (by kernel_rfl) (by kernel_rfl) (fun _ _ _ h => h) (by kernel_rfl) ?_ hHeld ?_; rotate_left; focus (((intro w hSw; (try dsimp only at hSw); go_simp) <;> with_reducible rfl); done)
            (try simp only [Act.put, List.setIfInBounds_toArray, List.set_cons_zero, List.set_cons_succ])
            refine held_call (i := 10) rfl (by kernel_rfl) (by kernel_rfl) (fun K hK => ?_)
            go_simp
            (refine (HCALL.out _ rfl).mono ?_; rintro e w1 ⟨rfl, hb1⟩)
            refine hK.out _ _ ?_ (fun hHeld2 => ?_)
            · exact ⟨cell_below hb1 hHeld.1, cell_below hb1 hHeld.2.1, cell_below hb1 hHeld.2.2.1, cell_below hb1 hHeld.2.2.2.1, cell_below hb1 hHeld.2.2.2.2.1, cell_below hb1 hHeld.2.2.2.2.2.1, cell_below hb1 hHeld.2.2.2.2.2.2.1, cell_below hb1 hHeld.2.2.2.2.2.2.2.1, cell_below hb1 hHeld.2.2.2.2.2.2.2.2.1, cell_below hb1 hHeld.2.2.2.2.2.2.2.2.2.1, cell_below hb1 hHeld.2.2.2.2.2.2.2.2.2.2.1, cell_below hb1 hHeld.2.2.2.2.2.2.2.2.2.2.2.1, cell_below hb1 hHeld.2.2.2.2.2.2.2.2.2.2.2.2.1, cell_below hb1 hHeld.2.2.2.2.2.2.2.2.2.2.2.2.2.1, cell_below hb1 hHeld.2.2.2.2.2.2.2.2.2.2.2.2.2.2.1, cell_below hb1 hHeld.2.2.2.2.2.2.2.2.2.2.2.2.2.2.2.1, cell_below hb1 hHeld.2.2.2.2.2.2.2.2.2.2.2.2.2.2.2.2.1, cell_below hb1 hHeld.2.2.2.2.2.2.2.2.2.2.2.2.2.2.2.2.2.1, cell_below hb1 hHeld.2.2.2.2.2.2.2.2.2.2.2.2.2.2.2.2.2.2.1, cell_below hb1 hHeld.2.2.2.2.2.2.2.2.2.2.2.2.2.2.2.2.2.2.2.1, cell_below hb1 hHeld.2.2.2.2.2.2.2.2.2.2.2.2.2.2.2.2.2.2.2.2.1, cell_below hb1 hHeld.2.2.2.2.2.2.2.2.2.2.2.2.2.2.2.2.2.2.2.2.2⟩
            clear hK K hHeld
            have hHeld := hHeld2
            clear hHeld2
            (try simp only [Act.put, List.setIfInBounds_toArray, List.set_cons_zero, List.set_cons_succ])
            refine held_take (i := 11) (v := ?_) rfl (by kernel_rfl) (by kernel_rfl) (by kernel_rfl) (fun _ _ _ h => h) (by kernel_rfl) ?_ hHeld ?_; rotate_left; focus (((intro w hSw; (try dsimp only at hSw); go_simp) <;> with_reducible rfl); done)
            (try simp only [Act.put, List.setIfInBounds_toArray, List.set_cons_zero, List.set_cons_succ])
            refine wpAnyH_done (by kernel_rfl) ?_ _
            go_wp2
            go_roundw
            case rel => exact ⟨k + 1, by omega, by omega, by go_num, by simpa using HST.out, HBW.out.trans ((below_undrew hb1).mono HBW.out.size)⟩
            case measure => simp [intOf]; omega
          · have hzb : (z != 0) = true := by simpa using hz
            refine wp_region_held_drew (S := (fun w' => w'.cell? ⟨bA, off + k * 12 + 1, none⟩ = some q0 ∧ w'.cell? ⟨bA, off + k * 12 + 1 + 1, none⟩ = some q1 ∧ w'.cell? ⟨bA, off + k * 12 + 1 + 2, none⟩ = some q2 ∧ w'.cell? ⟨bA, off + k * 12 + 1 + 3, none⟩ = some q3 ∧ w'.cell? ⟨bA, off + k * 12 + 1 + 4, none⟩ = some q4 ∧ w'.cell? ⟨bA, off + k * 12 + 1 + 5, none⟩ = some q5 ∧ w'.cell? ⟨bA, off + k * 12 + 1 + 6, none⟩ = some q6 ∧ w'.cell? ⟨bA, off + k * 12 + 1 + 7, none⟩ = some q7 ∧ w'.cell? ⟨bA, off + k * 12 + 1 + 8, none⟩ = some q8 ∧ w'.cell? ⟨bA, off + k * 12 + 1 + 9, none⟩ = some q9 ∧ w'.cell? ⟨bA, off + k * 12 + 1 + 10, none⟩ = some q10 ∧ w'.cell? ⟨bC, ofc + k * 12 + 1, none⟩ = some p0 ∧ w'.cell? ⟨bC, ofc + k * 12 + 1 + 1, none⟩ = some p1 ∧ w'.cell? ⟨bC, ofc + k * 12 + 1 + 2, none⟩ = some p2 ∧ w'.cell? ⟨bC, ofc + k * 12 + 1 + 3, none⟩ = some p3 ∧ w'.cell? ⟨bC, ofc + k * 12 + 1 + 4, none⟩ = some p4 ∧ w'.cell? ⟨bC, ofc + k * 12 + 1 + 5, none⟩ = some p5 ∧ w'.cell? ⟨bC, ofc + k * 12 + 1 + 6, none⟩ = some p6 ∧ w'.cell? ⟨bC, ofc + k * 12 + 1 + 7, none⟩ = some p7 ∧ w'.cell? ⟨bC, ofc + k * 12 + 1 + 8, none⟩ = some p8 ∧ w'.cell? ⟨bC, ofc + k * 12 + 1 + 9, none⟩ = some p9 ∧ w'.cell? ⟨bC, ofc + k * 12 + 1 + 10, none⟩ = some p10)) (by kernel_rfl) ⟨hc0, hc1, hc2, hc3, hc4, hc5, hc6, hc7, hc8, hc9, hc10, he0, he1, he2, he3, he4, he5, he6, he7, he8, he9, he10⟩ (fun hHeld => ?_)
            refine held_take (i := 0) (v := ?_) rfl (by kernel_rfl) (by kernel_rfl) (by kernel_rfl) (fun _ _ _ h => h) (by kernel_rfl) ?_ hHeld ?_; rotate_left; focus (((intro w hSw; (try dsimp only at hSw); go_simp) <;> with_reducible rfl); done)
            (try simp only [Act.put, List.setIfInBounds_toArray, List.set_cons_zero, List.set_cons_succ])
            refine held_take (i := 1) (v := ?_) rfl (by kernel_rfl) (by kernel_rfl) (by kernel_rfl) (fun _ _ _ h => h) (by kernel_rfl) ?_ hHeld ?_; rotate_left; focus (((intro w hSw; (try dsimp only at hSw); go_simp) <;> with_reducible rfl); done)
            (try simp only [Act.put, List.setIfInBounds_toArray, List.set_cons_zero, List.set_cons_succ])
            refine held_take (i := 2) (v := ?_) rfl (by kernel_rfl) (by kernel_rfl) (by kernel_rfl) (fun _ _ _ h => h) (by kernel_rfl) ?_ hHeld ?_; rotate_left; focus (((intro w hSw; (try dsimp only at hSw); go_simp) <;> with_reducible rfl); done)
            (try simp only [Act.put, List.setIfInBounds_toArray, List.set_cons_zero, List.set_cons_succ])
            refine held_take (i := 3) (v := ?_) rfl (by kernel_rfl) (by kernel_rfl) (by kernel_rfl) (fun _ _ _ h => h) (by kernel_rfl) ?_ hHeld ?_; rotate_left; focus (((intro w hSw; (try dsimp only at hSw); go_simp) <;> with_reducible rfl); done)
            (try simp only [Act.put, List.setIfInBounds_toArray, List.set_cons_zero, List.set_cons_succ])
            refine held_take (i := 4) (v := ?_) rfl (by kernel_rfl) (by kernel_rfl) (by kernel_rfl) (fun _ _ _ h => h) (by kernel_rfl) ?_ hHeld ?_; rotate_left; focus (((intro w hSw; (try dsimp only at hSw); go_simp) <;> with_reducible rfl); done)
            (try simp only [Act.put, List.setIfInBounds_toArray, List.set_cons_zero, List.set_cons_succ])
            refine held_take (i := 5) (v := ?_) rfl (by kernel_rfl) (by kernel_rfl) (by kernel_rfl) (fun _ _ _ h => h) (by kernel_rfl) ?_ hHeld ?_; rotate_left; focus (((intro w hSw; (try dsimp only at hSw); go_simp) <;> with_reducible rfl); done)
            (try simp only [Act.put, List.setIfInBounds_toArray, List.set_cons_zero, List.set_cons_succ])
            refine held_take (i := 6) (v := ?_) rfl (by kernel_rfl) (by kernel_rfl) (by kernel_rfl) (fun _ _ _ h => h) (by kernel_rfl) ?_ hHeld ?_; rotate_left; focus (((intro w hSw; (try dsimp only at hSw); go_simp) <;> with_reducible rfl); done)
            (try simp only [Act.put, List.setIfInBounds_toArray, List.set_cons_zero, List.set_cons_succ])
            refine held_take (i := 7) (v := ?_) rfl (by kernel_rfl) (by kernel_rfl) (by kernel_rfl) (fun _ _ _ h => h) (by kernel_rfl) ?_ hHeld ?_; rotate_left; focus (((intro w hSw; (try dsimp only at hSw); go_simp) <;> with_reducible rfl); done)
            (try simp only [Act.put, List.setIfInBounds_toArray, List.set_cons_zero, List.set_cons_succ])
            refine held_take (i := 8) (v := ?_) rfl (by kernel_rfl) (by kernel_rfl) (by kernel_rfl) (fun _ _ _ h => h) (by kernel_rfl) ?_ hHeld ?_; rotate_left; focus (((intro w hSw; (try dsimp only at hSw); go_simp) <;> with_reducible rfl); done)
            (try simp only [Act.put, List.setIfInBounds_toArray, List.set_cons_zero, List.set_cons_succ])
            refine held_take (i := 9) (v := ?_) rfl (by kernel_rfl) (by kernel_rfl) (by kernel_rfl) (fun _ _ _ h => h) (by kernel_rfl) ?_ hHeld ?_; rotate_left; focus (((intro w hSw; (try dsimp only at hSw); go_simp) <;> with_reducible rfl); done)
            (try simp only [Act.put, List.setIfInBounds_toArray, List.set_cons_zero, List.set_cons_succ])
            refine held_call (i := 10) rfl (by kernel_rfl) (by kernel_rfl) (fun K hK => ?_)
            go_simp
            (refine (HCALL.out _ rfl).mono ?_; rintro e w1 ⟨rfl, hb1⟩)
            refine hK.out _ _ ?_ (fun hHeld2 => ?_)
            · exact ⟨cell_below hb1 hHeld.1, cell_below hb1 hHeld.2.1, cell_below hb1 hHeld.2.2.1, cell_below hb1 hHeld.2.2.2.1, cell_below hb1 hHeld.2.2.2.2.1, cell_below hb1 hHeld.2.2.2.2.2.1, cell_below hb1 hHeld.2.2.2.2.2.2.1, cell_below hb1 hHeld.2.2.2.2.2.2.2.1, cell_below hb1 hHeld.2.2.2.2.2.2.2.2.1, cell_below hb1 hHeld.2.2.2.2.2.2.2.2.2.1, cell_below hb1 hHeld.2.2.2.2.2.2.2.2.2.2.1, cell_below hb1 hHeld.2.2.2.2.2.2.2.2.2.2.2.1, cell_below hb1 hHeld.2.2.2.2.2.2.2.2.2.2.2.2.1, cell_below hb1 hHeld.2.2.2.2.2.2.2.2.2.2.2.2.2.1, cell_below hb1 hHeld.2.2.2.2.2.2.2.2.2.2.2.2.2.2.1, cell_below hb1 hHeld.2.2.2.2.2.2.2.2.2.2.2.2.2.2.2.1, cell_below hb1 hHeld.2.2.2.2.2.2.2.2.2.2.2.2.2.2.2.2.1, cell_below hb1 hHeld.2.2.2.2.2.2.2.2.2.2.2.2.2.2.2.2.2.1, cell_below hb1 hHeld.2.2.2.2.2.2.2.2.2.2.2.2.2.2.2.2.2.2.1, cell_below hb1 hHeld.2.2.2.2.2.2.2.2.2.2.2.2.2.2.2.2.2.2.2.1, cell_below hb1 hHeld.2.2.2.2.2.2.2.2.2.2.2.2.2.2.2.2.2.2.2.2.1, cell_below hb1 hHeld.2.2.2.2.2.2.2.2.2.2.2.2.2.2.2.2.2.2.2.2.2⟩
            clear hK K hHeld
            have hHeld := hHeld2
            clear hHeld2
            (try simp only [Act.put, List.setIfInBounds_toArray, List.set_cons_zero, List.set_cons_succ])
            refine held_take (i := 11) (v := ?_) rfl (by kernel_rfl) (by kernel_rfl) (by kernel_rfl) (fun _ _ _ h => h) (by kernel_rfl) ?_ hHeld ?_; rotate_left; focus (((intro w hSw; (try dsimp only at hSw); go_simp) <;> with_reducible rfl); done)
            (try simp only [Act.put, List.setIfInBounds_toArray, List.set_cons_zero, List.set_cons_succ])
            refine wpAnyH_done (by kernel_rfl) ?_ _
            go_wp2
            go_ret
            have h3 := HST.out
            rw [if_neg hz] at h3
            exact ⟨by rw [← h3]; rfl, HBW.out.trans ((below_undrew hb1).mono HBW.out.size)⟩
        · have htb : (t != 0) = true := by simpa using ht
          go_wp2
          go_quiet (first | (go_at_call 58; refine Calls.quiet_of_same (HT.out _)))
          go_wp2
          go_ret
          have h3 := HSTEP.out
          rw [if_neg ht, if_neg ht] at h3
          exact ⟨by rw [← h3]; rfl, below_drewN HBL.out _⟩
      · have hd2 : decide ((k : Int) < (us.length : Int)) = false := by simp; omega
        go_wp2_with (first | (go_at_call 55; refine (HN.out _ _ _).mono ?_; rintro e w1 ⟨rfl, hw1⟩; subst w1))
        go_ret
        refine ⟨?_, HBL.out⟩
        rw [← HEQ.out, cmpF_end_right (by rw [builds_len]; exact hlt) (by rw [builds_len]; omega)]
        show Ending.returned (.int .i64 (sgn (ts.length : Int) (us.length : Int))) = _
        rw [show sgn (ts.length : Int) (us.length : Int) = 1 by unfold sgn; rw [if_neg (by omega), if_pos (by omega)]]
    · obtain rfl : k = ts.length := by omega
      have hd1 : decide ((ts.length : Int) < (ts.length : Int)) = false := by simp
      go_wp2_with (first | (go_at_call 55; refine (HN.out _ _ _).mono ?_; rintro e w1 ⟨rfl, hw1⟩; subst w1))
      go_ret
      refine ⟨?_, HBL.out⟩
      show Ending.returned (.int .i64 (sgn (ts.length : Int) (us.length : Int))) = _
      by_cases hlb : ts.length < us.length
      · rw [← HEQ.out, cmpF_end_left (by rw [builds_len]) (by rw [builds_len]; exact hlb)]
        rw [show sgn (ts.length : Int) (us.length : Int) = -1 by unfold sgn; rw [if_pos (by omega)]]
      · rw [← HEQ.out, cmpF_end (by rw [builds_len]) (by rw [builds_len]; omega)]
        rw [show sgn (ts.length : Int) (us.length : Int) = 0 by unfold sgn; rw [if_neg (by omega), if_neg (by omega)]]
end Go.Proofs.Ythanmakakcmkeaa
