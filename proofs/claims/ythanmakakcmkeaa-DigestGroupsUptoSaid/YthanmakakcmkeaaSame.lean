/- tenonmake.Same, Lists, Entries: whether two terms are the same. -/
import Derived.Test.YthanmakakcmkeaaCopied3
import Derived.Test.YthanmakakcmkeaaSeq
namespace Go.Proofs.Ythanmakakcmkeaa
open Go.RowKit

mutual
/-- what Same tells -/
def sameT : Tm → Tm → Bool
  | .mk k b i f s bs r l ns vs c v, .mk k' b' i' f' s' bs' r' l' ns' vs' c' v' =>
    if k = k' then
      if k = 1 ∨ k = 11 then true
      else if k = 2 then b == b'
      else if k = 3 then i == i'
      else if k = 4 then (f : Int) == (f' : Int)
      else if k = 5 then s.toList == s'.toList
      else if k = 6 then bs == bs'
      else if k = 7 then r == r'
      else if k = 8 then decide (l.length = l'.length) && samesT l l'
      else if k = 9 then decide (vs.length = vs'.length) && samesE vs ns ns' vs'
      else if k = 10 then (c.toList == c'.toList) && ((v == v') && (decide (vs.length = vs'.length) && samesE vs ns ns' vs'))
      else false
    else false
def samesT : List Tm → List Tm → Bool
  | [], _ => true
  | t :: ts, u :: us => sameT t u && samesT ts us
  | _ :: _, [] => false
def samesE : List Tm → List ByteArray → List ByteArray → List Tm → Bool
  | [], _, _, _ => true
  | t :: ts, ns, ms, u :: us => ((ns.headD ByteArray.empty).toList == (ms.headD ByteArray.empty).toList) && (sameT t u && samesE ts ns.tail ms.tail us)
  | _ :: _, _, _, [] => false
end

/-- a call that tells a bool, in memory that grows -/
def Tells (b : Bool) (w : World) (e : Ending) (w' : World) : Prop := e = .returned (.bool b) ∧ Below w.heap.size w w'

def SameAt (t : Tm) : Prop := ∀ (u : Tm) (cs ds : List Value) (w : World) (B : Nat), B ≤ w.heap.size → TmAt w B t cs → TmAt w B u ds →
  Calls Try.prog 38 #[.agg cs.toArray, .agg ds.toArray] w (Tells (sameT t u) w)

set_option maxRecDepth 20000 in
theorem same_kinds {b : Bool} {i : Int} {f : Nat} {s : ByteArray} {A5 : Option Addr} {n5 c5 : Nat} {r : Int} {A7 : Option Addr} {n7 c7 : Nat} {A8 : Option Addr} {n8 c8 : Nat} {c : ByteArray} {v : Int}
    {b' : Bool} {i' : Int} {f' : Nat} {s' : ByteArray} {B5 : Option Addr} {m5 d5 : Nat} {r' : Int} {B7 : Option Addr} {m7 d7 : Nat} {B8 : Option Addr} {m8 d8 : Nat} {c' : ByteArray} {v' : Int} {w : World} (k k' : Int) (h : (k != k') = true) : Calls Try.prog 38 #[.agg #[.int .i64 k, .bool b, .int .i64 i, .float .f64 f, .string s, .slice A5 n5 c5, .int .u64 r, .slice A7 n7 c7, .slice A8 n8 c8, .string c, .int .i64 v], .agg #[.int .i64 k', .bool b', .int .i64 i', .float .f64 f', .string s', .slice B5 m5 d5, .int .u64 r', .slice B7 m7 d7, .slice B8 m8 d8, .string c', .int .i64 v']] w (Tells false w) := by
  go_enter Try.func38, Try.ntmps38
  go_wp2_with fail
  go_ret
  exact ⟨rfl, ((Below.refl _ _).alloc (Nat.le_refl _) _).alloc (by simp) _⟩
set_option maxRecDepth 20000 in
theorem same_none {b : Bool} {i : Int} {f : Nat} {s : ByteArray} {A5 : Option Addr} {n5 c5 : Nat} {r : Int} {A7 : Option Addr} {n7 c7 : Nat} {A8 : Option Addr} {n8 c8 : Nat} {c : ByteArray} {v : Int}
    {b' : Bool} {i' : Int} {f' : Nat} {s' : ByteArray} {B5 : Option Addr} {m5 d5 : Nat} {r' : Int} {B7 : Option Addr} {m7 d7 : Nat} {B8 : Option Addr} {m8 d8 : Nat} {c' : ByteArray} {v' : Int} {w : World} (k : Int) (h1 : (k == 1) = false) (h2 : (k == 2) = false) (h3 : (k == 3) = false) (h4 : (k == 4) = false) (h5 : (k == 5) = false) (h6 : (k == 6) = false) (h7 : (k == 7) = false) (h8 : (k == 8) = false) (h9 : (k == 9) = false) (h10 : (k == 10) = false) (h11 : (k == 11) = false) : Calls Try.prog 38 #[.agg #[.int .i64 k, .bool b, .int .i64 i, .float .f64 f, .string s, .slice A5 n5 c5, .int .u64 r, .slice A7 n7 c7, .slice A8 n8 c8, .string c, .int .i64 v], .agg #[.int .i64 k, .bool b', .int .i64 i', .float .f64 f', .string s', .slice B5 m5 d5, .int .u64 r', .slice B7 m7 d7, .slice B8 m8 d8, .string c', .int .i64 v']] w (Tells false w) := by
  go_enter Try.func38, Try.ntmps38
  go_wp2_with fail
  go_ret
  exact ⟨rfl, ((Below.refl _ _).alloc (Nat.le_refl _) _).alloc (by simp) _⟩
set_option maxRecDepth 20000 in
theorem same_1 {b : Bool} {i : Int} {f : Nat} {s : ByteArray} {A5 : Option Addr} {n5 c5 : Nat} {r : Int} {A7 : Option Addr} {n7 c7 : Nat} {A8 : Option Addr} {n8 c8 : Nat} {c : ByteArray} {v : Int}
    {b' : Bool} {i' : Int} {f' : Nat} {s' : ByteArray} {B5 : Option Addr} {m5 d5 : Nat} {r' : Int} {B7 : Option Addr} {m7 d7 : Nat} {B8 : Option Addr} {m8 d8 : Nat} {c' : ByteArray} {v' : Int} {w : World}  : Calls Try.prog 38 #[.agg #[.int .i64 1, .bool b, .int .i64 i, .float .f64 f, .string s, .slice A5 n5 c5, .int .u64 r, .slice A7 n7 c7, .slice A8 n8 c8, .string c, .int .i64 v], .agg #[.int .i64 1, .bool b', .int .i64 i', .float .f64 f', .string s', .slice B5 m5 d5, .int .u64 r', .slice B7 m7 d7, .slice B8 m8 d8, .string c', .int .i64 v']] w (Tells true w) := by
  go_enter Try.func38, Try.ntmps38
  go_wp2_with fail
  go_ret
  exact ⟨rfl, ((Below.refl _ _).alloc (Nat.le_refl _) _).alloc (by simp) _⟩
set_option maxRecDepth 20000 in
theorem same_11 {b : Bool} {i : Int} {f : Nat} {s : ByteArray} {A5 : Option Addr} {n5 c5 : Nat} {r : Int} {A7 : Option Addr} {n7 c7 : Nat} {A8 : Option Addr} {n8 c8 : Nat} {c : ByteArray} {v : Int}
    {b' : Bool} {i' : Int} {f' : Nat} {s' : ByteArray} {B5 : Option Addr} {m5 d5 : Nat} {r' : Int} {B7 : Option Addr} {m7 d7 : Nat} {B8 : Option Addr} {m8 d8 : Nat} {c' : ByteArray} {v' : Int} {w : World}  : Calls Try.prog 38 #[.agg #[.int .i64 11, .bool b, .int .i64 i, .float .f64 f, .string s, .slice A5 n5 c5, .int .u64 r, .slice A7 n7 c7, .slice A8 n8 c8, .string c, .int .i64 v], .agg #[.int .i64 11, .bool b', .int .i64 i', .float .f64 f', .string s', .slice B5 m5 d5, .int .u64 r', .slice B7 m7 d7, .slice B8 m8 d8, .string c', .int .i64 v']] w (Tells true w) := by
  go_enter Try.func38, Try.ntmps38
  go_wp2_with fail
  go_ret
  exact ⟨rfl, ((Below.refl _ _).alloc (Nat.le_refl _) _).alloc (by simp) _⟩
set_option maxRecDepth 20000 in
theorem same_2 {b : Bool} {i : Int} {f : Nat} {s : ByteArray} {A5 : Option Addr} {n5 c5 : Nat} {r : Int} {A7 : Option Addr} {n7 c7 : Nat} {A8 : Option Addr} {n8 c8 : Nat} {c : ByteArray} {v : Int}
    {b' : Bool} {i' : Int} {f' : Nat} {s' : ByteArray} {B5 : Option Addr} {m5 d5 : Nat} {r' : Int} {B7 : Option Addr} {m7 d7 : Nat} {B8 : Option Addr} {m8 d8 : Nat} {c' : ByteArray} {v' : Int} {w : World}  : Calls Try.prog 38 #[.agg #[.int .i64 2, .bool b, .int .i64 i, .float .f64 f, .string s, .slice A5 n5 c5, .int .u64 r, .slice A7 n7 c7, .slice A8 n8 c8, .string c, .int .i64 v], .agg #[.int .i64 2, .bool b', .int .i64 i', .float .f64 f', .string s', .slice B5 m5 d5, .int .u64 r', .slice B7 m7 d7, .slice B8 m8 d8, .string c', .int .i64 v']] w (Tells (b == b') w) := by
  go_enter Try.func38, Try.ntmps38
  go_wp2_with fail
  go_ret
  exact ⟨rfl, ((Below.refl _ _).alloc (Nat.le_refl _) _).alloc (by simp) _⟩
set_option maxRecDepth 20000 in
theorem same_3 {b : Bool} {i : Int} {f : Nat} {s : ByteArray} {A5 : Option Addr} {n5 c5 : Nat} {r : Int} {A7 : Option Addr} {n7 c7 : Nat} {A8 : Option Addr} {n8 c8 : Nat} {c : ByteArray} {v : Int}
    {b' : Bool} {i' : Int} {f' : Nat} {s' : ByteArray} {B5 : Option Addr} {m5 d5 : Nat} {r' : Int} {B7 : Option Addr} {m7 d7 : Nat} {B8 : Option Addr} {m8 d8 : Nat} {c' : ByteArray} {v' : Int} {w : World}  : Calls Try.prog 38 #[.agg #[.int .i64 3, .bool b, .int .i64 i, .float .f64 f, .string s, .slice A5 n5 c5, .int .u64 r, .slice A7 n7 c7, .slice A8 n8 c8, .string c, .int .i64 v], .agg #[.int .i64 3, .bool b', .int .i64 i', .float .f64 f', .string s', .slice B5 m5 d5, .int .u64 r', .slice B7 m7 d7, .slice B8 m8 d8, .string c', .int .i64 v']] w (Tells (i == i') w) := by
  go_enter Try.func38, Try.ntmps38
  go_wp2_with fail
  go_ret
  exact ⟨rfl, ((Below.refl _ _).alloc (Nat.le_refl _) _).alloc (by simp) _⟩
set_option maxRecDepth 20000 in
theorem same_5 {b : Bool} {i : Int} {f : Nat} {s : ByteArray} {A5 : Option Addr} {n5 c5 : Nat} {r : Int} {A7 : Option Addr} {n7 c7 : Nat} {A8 : Option Addr} {n8 c8 : Nat} {c : ByteArray} {v : Int}
    {b' : Bool} {i' : Int} {f' : Nat} {s' : ByteArray} {B5 : Option Addr} {m5 d5 : Nat} {r' : Int} {B7 : Option Addr} {m7 d7 : Nat} {B8 : Option Addr} {m8 d8 : Nat} {c' : ByteArray} {v' : Int} {w : World}  : Calls Try.prog 38 #[.agg #[.int .i64 5, .bool b, .int .i64 i, .float .f64 f, .string s, .slice A5 n5 c5, .int .u64 r, .slice A7 n7 c7, .slice A8 n8 c8, .string c, .int .i64 v], .agg #[.int .i64 5, .bool b', .int .i64 i', .float .f64 f', .string s', .slice B5 m5 d5, .int .u64 r', .slice B7 m7 d7, .slice B8 m8 d8, .string c', .int .i64 v']] w (Tells (s.toList == s'.toList) w) := by
  go_enter Try.func38, Try.ntmps38
  go_wp2_with fail
  go_ret
  exact ⟨rfl, ((Below.refl _ _).alloc (Nat.le_refl _) _).alloc (by simp) _⟩
set_option maxRecDepth 20000 in
theorem same_7 {b : Bool} {i : Int} {f : Nat} {s : ByteArray} {A5 : Option Addr} {n5 c5 : Nat} {r : Int} {A7 : Option Addr} {n7 c7 : Nat} {A8 : Option Addr} {n8 c8 : Nat} {c : ByteArray} {v : Int}
    {b' : Bool} {i' : Int} {f' : Nat} {s' : ByteArray} {B5 : Option Addr} {m5 d5 : Nat} {r' : Int} {B7 : Option Addr} {m7 d7 : Nat} {B8 : Option Addr} {m8 d8 : Nat} {c' : ByteArray} {v' : Int} {w : World}  : Calls Try.prog 38 #[.agg #[.int .i64 7, .bool b, .int .i64 i, .float .f64 f, .string s, .slice A5 n5 c5, .int .u64 r, .slice A7 n7 c7, .slice A8 n8 c8, .string c, .int .i64 v], .agg #[.int .i64 7, .bool b', .int .i64 i', .float .f64 f', .string s', .slice B5 m5 d5, .int .u64 r', .slice B7 m7 d7, .slice B8 m8 d8, .string c', .int .i64 v']] w (Tells (r == r') w) := by
  go_enter Try.func38, Try.ntmps38
  go_wp2_with fail
  go_ret
  exact ⟨rfl, ((Below.refl _ _).alloc (Nat.le_refl _) _).alloc (by simp) _⟩
set_option maxRecDepth 20000 in
theorem same_4 {b : Bool} {i : Int} {f : Nat} {s : ByteArray} {A5 : Option Addr} {n5 c5 : Nat} {r : Int} {A7 : Option Addr} {n7 c7 : Nat} {A8 : Option Addr} {n8 c8 : Nat} {c : ByteArray} {v : Int}
    {b' : Bool} {i' : Int} {f' : Nat} {s' : ByteArray} {B5 : Option Addr} {m5 d5 : Nat} {r' : Int} {B7 : Option Addr} {m7 d7 : Nat} {B8 : Option Addr} {m8 d8 : Nat} {c' : ByteArray} {v' : Int} {w : World}  : Calls Try.prog 38 #[.agg #[.int .i64 4, .bool b, .int .i64 i, .float .f64 f, .string s, .slice A5 n5 c5, .int .u64 r, .slice A7 n7 c7, .slice A8 n8 c8, .string c, .int .i64 v], .agg #[.int .i64 4, .bool b', .int .i64 i', .float .f64 f', .string s', .slice B5 m5 d5, .int .u64 r', .slice B7 m7 d7, .slice B8 m8 d8, .string c', .int .i64 v']] w (Tells ((f : Int) == (f' : Int)) w) := by
  have k1 := bits_call f
  have k2 := bits_call f'
  go_enter Try.func38, Try.ntmps38
  go_wp2_with fail
  go_quiet (fail)
  go_wp2
  go_ret
  exact ⟨rfl, below_drewN (((Below.refl _ _).alloc (Nat.le_refl _) _).alloc (by simp) _) _⟩
set_option maxRecDepth 20000 in
theorem same_6 {b : Bool} {i : Int} {f : Nat} {s : ByteArray} {A5 : Option Addr} {bs : List UInt8} {c5 : Nat} {r : Int} {A7 : Option Addr} {n7 c7 : Nat} {A8 : Option Addr} {n8 c8 : Nat} {c : ByteArray} {v : Int}
    {b' : Bool} {i' : Int} {f' : Nat} {s' : ByteArray} {B5 : Option Addr} {ds : List UInt8} {d5 : Nat} {r' : Int} {B7 : Option Addr} {m7 d7 : Nat} {B8 : Option Addr} {m8 d8 : Nat} {c' : ByteArray} {v' : Int} {w : World} (B : Nat) (hB : B ≤ w.heap.size)
    (h1 : Rd w B 1 A5 bs.length (bs.map u8v)) (h2 : Rd w B 1 B5 ds.length (ds.map u8v)) : Calls Try.prog 38 #[.agg #[.int .i64 6, .bool b, .int .i64 i, .float .f64 f, .string s, .slice A5 bs.length c5, .int .u64 r, .slice A7 n7 c7, .slice A8 n8 c8, .string c, .int .i64 v], .agg #[.int .i64 6, .bool b', .int .i64 i', .float .f64 f', .string s', .slice B5 ds.length d5, .int .u64 r', .slice B7 m7 d7, .slice B8 m8 d8, .string c', .int .i64 v']] w (Tells (bs == ds) w) := by
  have HB : Hid (Below w.heap.size w ((w.alloc (.cells #[.int .i64 6, .bool b, .int .i64 i, .float .f64 f, .string s, .slice A5 bs.length c5, .int .u64 r, .slice A7 n7 c7, .slice A8 n8 c8, .string c, .int .i64 v] 31)).alloc (.cells #[.int .i64 6, .bool b', .int .i64 i', .float .f64 f', .string s', .slice B5 ds.length d5, .int .u64 r', .slice B7 m7 d7, .slice B8 m8 d8, .string c', .int .i64 v'] 31))) := Lib.hid (((Below.refl _ _).alloc (Nat.le_refl _) _).alloc (by simp) _)
  have hc1 := conv_rd _ B A5 bs c5 (h1.below HB.out hB)
  have hc2 := conv_rd _ B B5 ds d5 (h2.below HB.out hB)
  clear h1 h2
  go_enter Try.func38, Try.ntmps38
  go_wp2_with fail
  go_ret
  exact ⟨by simp, ((Below.refl _ _).alloc (Nat.le_refl _) _).alloc (by simp) _⟩

theorem samesT_drop {ts us : List Tm} {k : Nat} (h1 : k < ts.length) (h2 : k < us.length) : samesT (ts.drop k) (us.drop k) = (sameT ts[k] us[k] && samesT (ts.drop (k + 1)) (us.drop (k + 1))) := by
  rw [List.drop_eq_getElem_cons h1, List.drop_eq_getElem_cons h2, samesT]

set_option maxRecDepth 100000 in
set_option maxHeartbeats 4000000 in
theorem lists_any (ts us : List Tm) (rows rous : List (List Value)) (A C : Option Addr) (c1 c2 : Nat) (w : World) (B : Nat) (hB : B ≤ w.heap.size)
    (h1 : Rd w B 11 A ts.length rows.flatten) (h2 : Rd w B 11 C us.length rous.flatten) (t1 : TmsAt w B ts rows) (t2 : TmsAt w B us rous)
    (hl1 : ts.length ≤ 1048576) (hl2 : us.length ≤ 1048576) (ih : ∀ t ∈ ts, SameAt t) :
    Calls Try.prog 61 #[.slice A ts.length c1, .slice C us.length c2] w (Tells (decide (ts.length = us.length) && samesT ts us) w) := by
  by_cases hne : ts.length = us.length
  · have hb0 : ((ts.length : Int) != (us.length : Int)) = false := by simp [hne]
    obtain ⟨res, hres⟩ : ∃ res, (decide (ts.length = us.length) && samesT ts us) = res := ⟨_, rfl⟩
    rw [hres]
    have HR := Lib.hid hres
    have HNE := Lib.hid hne
    have H1 := Lib.hid h1
    have H2 := Lib.hid h2
    have T1 := Lib.hid t1
    have T2 := Lib.hid t2
    have HIH := Lib.hid ih
    clear hres hne h1 h2 t1 t2 ih
    go_enter Try.func61, Try.ntmps61
    go_wp2
    go_loopw [5] (fun v5 wr => ∃ k : Nat, k ≤ ts.length ∧ v5 = .int .i64 k ∧ samesT (ts.drop k) (us.drop k) = res ∧ Below w.heap.size w wr) (fun v _ => ts.length - (intOf v).toNat)
    case atStart => exact ⟨0, by omega, rfl, by have := HR.out; have := HNE.out; simpa [this] using HR.out, Below.refl _ _⟩
    case round =>
      obtain ⟨k, hk, rfl, heq, hbl⟩ := hrel
      have HEQ := Lib.hid heq
      have HBL := Lib.hid hbl
      clear heq hbl
      have hk0 : (0 : Int) ≤ (k : Int) := Int.natCast_nonneg _
      by_cases hlt : k < ts.length
      · have hk1 : (k : Int) < (ts.length : Int) := by omega
        have hlb : k < us.length := by have := HNE.out; omega
        have hk2 : (k : Int) < (us.length : Int) := by omega
        obtain ⟨bA, off, rfl, hbA, _⟩ := H1.out.2 (by omega)
        obtain ⟨bC, ofc, rfl, hbC, _⟩ := H2.out.2 (by omega)
        obtain ⟨hrl1, hget1⟩ := TmsAt.get ts T1.out
        obtain ⟨hrl2, hget2⟩ := TmsAt.get us T2.out
        obtain ⟨x, hx, htx⟩ := hget1 k ts[k] (by simp [hlt])
        obtain ⟨y, hy, hty⟩ := hget2 k us[k] (by simp [hlb])
        have h11a := TmsAt.len ts T1.out
        have h11b := TmsAt.len us T2.out
        have hsz := HBL.out.size
        have hcells1 := flat_at (H1.out.below HBL.out hB) h11a hrl1 k x hx
        have hcells2 := flat_at (H2.out.below HBL.out hB) h11b hrl2 k y hy
        obtain ⟨q0, q1, q2, q3, q4, q5, q6, q7, q8, q9, q10, rfl⟩ := list11 (h11a x (List.mem_of_getElem? hx))
        obtain ⟨p0, p1, p2, p3, p4, p5, p6, p7, p8, p9, p10, rfl⟩ := list11 (h11b y (List.mem_of_getElem? hy))
        have hst := HEQ.out
        rw [samesT_drop hlt hlb] at hst
        have hcall := (HIH.out _ (List.getElem_mem hlt)) us[k] _ _ wr.drew B (by show B ≤ wr.heap.size; omega) (htx.below HBL.out.drew hB) (hty.below HBL.out.drew hB)
        obtain ⟨hc0, hc1, hc2, hc3, hc4, hc5, hc6, hc7, hc8, hc9, hc10⟩ := range11 hcells1
        obtain ⟨he0, he1, he2, he3, he4, he5, he6, he7, he8, he9, he10⟩ := range11 hcells2
        generalize sameT ts[k] us[k] = z at hcall hst
        have HCALL : Hid (∀ V, V = wr.drew → Calls Try.prog 38 #[.agg #[q0, q1, q2, q3, q4, q5, q6, q7, q8, q9, q10], .agg #[p0, p1, p2, p3, p4, p5, p6, p7, p8, p9, p10]] V (Tells z V)) := Lib.hid fun V hV => by rw [hV]; exact hcall
        have HST := Lib.hid hst
        clear hcall hst hcells1 hcells2 hget1 hget2 hx hy htx hty hrl1 hrl2 h11a h11b
        have hbA' : bA < wr.heap.size := by omega
        have hbC' : bC < wr.heap.size := by omega
        cases z
        all_goals
          go_wp2
          refine region_seq 10 (Kept wr.heap.size wr) (by kernel_rfl) (by kernel_rfl) (Kept.refl _) (fun hHeld => ?_)
          repeat (refine seq_take_free (v := ?_) (by kernel_rfl) rfl (fun _ _ _ h => h) hHeld ?_ ?_; rotate_left; (focus (((intro w hSw; obtain ⟨hk1, hk2⟩ := Kept.cells hSw; clear hSw; go_simp) <;> with_reducible rfl); done)); (try simp only [Act.put, List.setIfInBounds_toArray, List.set_cons_zero, List.set_cons_succ]))
          refine seq_call_free (by kernel_rfl) rfl (fun K hK => ?_)
          go_simp
          (refine (HCALL.out _ rfl).mono ?_; rintro e w1 ⟨rfl, hb1⟩)
          refine hK.out _ _ ?_ (fun hHeld2 => ?_)
          · exact hHeld.step hb1 (Nat.le_refl _)
          clear hK K hHeld
          have hHeld := hHeld2
          clear hHeld2
          (try simp only [Act.put, List.setIfInBounds_toArray, List.set_cons_zero, List.set_cons_succ])
          repeat (refine seq_take_free (v := ?_) (by kernel_rfl) rfl (fun _ _ _ h => h) hHeld ?_ ?_; rotate_left; (focus (((intro w hSw; obtain ⟨hk1, hk2⟩ := Kept.cells hSw; clear hSw; go_simp) <;> with_reducible rfl); done)); (try simp only [Act.put, List.setIfInBounds_toArray, List.set_cons_zero, List.set_cons_succ]))
          refine seq_done ?_
          go_wp2
        · go_ret
          have h3 := HST.out
          simp only [Bool.false_and] at h3
          exact ⟨by rw [← h3]; rfl, HBL.out.trans (hHeld.below.mono hsz)⟩
        · go_roundw
          case rel => exact ⟨k + 1, by omega, by go_num, by simpa using HST.out, HBL.out.trans (hHeld.below.mono hsz)⟩
          case measure => simp [intOf]; omega
      · obtain rfl : k = ts.length := by omega
        go_wp2
        go_ret
        have h3 := HEQ.out
        rw [List.drop_of_length_le (Nat.le_refl _)] at h3
        simp only [samesT] at h3
        exact ⟨by rw [← h3]; rfl, HBL.out⟩
  · have hb0 : ((ts.length : Int) != (us.length : Int)) = true := by simp; omega
    have hd : (decide (ts.length = us.length) && samesT ts us) = false := by simp [hne]
    rw [hd]
    clear h1 h2 t1 t2 ih hd hne
    go_enter Try.func61, Try.ntmps61
    go_wp2
    go_ret
    exact ⟨rfl, Below.refl _ _⟩

theorem samesE_drop {ts us : List Tm} {ns ms : List ByteArray} {k : Nat} (h1 : k < ts.length) (h2 : k < us.length) : samesE (ts.drop k) (ns.drop k) (ms.drop k) (us.drop k) =
    (((ns.getD k ByteArray.empty).toList == (ms.getD k ByteArray.empty).toList) && (sameT ts[k] us[k] && samesE (ts.drop (k + 1)) (ns.drop (k + 1)) (ms.drop (k + 1)) (us.drop (k + 1)))) := by
  rw [List.drop_eq_getElem_cons h1, List.drop_eq_getElem_cons h2, samesE, headD_drop, headD_drop, List.tail_drop, List.tail_drop]

set_option maxRecDepth 100000 in
set_option maxHeartbeats 8000000 in
theorem entriesS_any (ts us : List Tm) (ns ms : List ByteArray) (rows rous : List (List Value)) (A C : Option Addr) (c1 c2 : Nat) (w : World) (B : Nat) (hB : B ≤ w.heap.size)
    (h1 : Rd w B 12 A ts.length (entRows ns rows)) (h2 : Rd w B 12 C us.length (entRows ms rous)) (t1 : TmsAt w B ts rows) (t2 : TmsAt w B us rous) (hns : ns.length = ts.length) (hms : ms.length = us.length)
    (hl1 : ts.length ≤ 1048576) (hl2 : us.length ≤ 1048576) (ih : ∀ t ∈ ts, SameAt t) :
    Calls Try.prog 62 #[.slice A ts.length c1, .slice C us.length c2] w (Tells (decide (ts.length = us.length) && samesE ts ns ms us) w) := by
  by_cases hne : ts.length = us.length
  · have hb0 : ((ts.length : Int) != (us.length : Int)) = false := by simp [hne]
    obtain ⟨res, hres⟩ : ∃ res, (decide (ts.length = us.length) && samesE ts ns ms us) = res := ⟨_, rfl⟩
    rw [hres]
    have HR := Lib.hid hres
    have HNE := Lib.hid hne
    have H1 := Lib.hid h1
    have H2 := Lib.hid h2
    have T1 := Lib.hid t1
    have T2 := Lib.hid t2
    have HIH := Lib.hid ih
    have HNS := Lib.hid hns
    have HMS := Lib.hid hms
    clear hres hne h1 h2 t1 t2 ih hns hms
    go_enter Try.func62, Try.ntmps62
    go_wp2
    go_loopw [5] (fun v5 wr => ∃ k : Nat, k ≤ ts.length ∧ v5 = .int .i64 k ∧ samesE (ts.drop k) (ns.drop k) (ms.drop k) (us.drop k) = res ∧ Below w.heap.size w wr) (fun v _ => ts.length - (intOf v).toNat)
    case atStart => exact ⟨0, by omega, rfl, by have := HR.out; have := HNE.out; simpa [this] using HR.out, Below.refl _ _⟩
    case round =>
      obtain ⟨k, hk, rfl, heq, hbl⟩ := hrel
      have HEQ := Lib.hid heq
      have HBL := Lib.hid hbl
      clear heq hbl
      have hk0 : (0 : Int) ≤ (k : Int) := Int.natCast_nonneg _
      by_cases hlt : k < ts.length
      · have hk1 : (k : Int) < (ts.length : Int) := by omega
        have hlb : k < us.length := by have := HNE.out; omega
        have hk2 : (k : Int) < (us.length : Int) := by omega
        obtain ⟨bA, off, rfl, hbA, _⟩ := H1.out.2 (by omega)
        obtain ⟨bC, ofc, rfl, hbC, _⟩ := H2.out.2 (by omega)
        obtain ⟨hrl1, hget1⟩ := TmsAt.get ts T1.out
        obtain ⟨hrl2, hget2⟩ := TmsAt.get us T2.out
        obtain ⟨x, hx, htx⟩ := hget1 k ts[k] (by simp [hlt])
        obtain ⟨y, hy, hty⟩ := hget2 k us[k] (by simp [hlb])
        have h11a := TmsAt.len ts T1.out
        have h11b := TmsAt.len us T2.out
        have hsz := HBL.out.size
        obtain ⟨hnA, hcA⟩ := entry_at (H1.out.below HBL.out hB) h11a (by have := HNS.out; omega) HNS.out k hlt
        obtain ⟨hnC, hcC⟩ := entry_at (H2.out.below HBL.out hB) h11b (by have := HMS.out; omega) HMS.out k hlb
        have hcells1 := hcA x hx
        have hcells2 := hcC y hy
        obtain ⟨q0, q1, q2, q3, q4, q5, q6, q7, q8, q9, q10, rfl⟩ := list11 (h11a x (List.mem_of_getElem? hx))
        obtain ⟨p0, p1, p2, p3, p4, p5, p6, p7, p8, p9, p10, rfl⟩ := list11 (h11b y (List.mem_of_getElem? hy))
        have hst := HEQ.out
        rw [samesE_drop hlt hlb] at hst
        generalize ns.getD k ByteArray.empty = n at hnA hst
        generalize ms.getD k ByteArray.empty = m at hnC hst
        have hcall := (HIH.out _ (List.getElem_mem hlt)) us[k] _ _ wr.drew B (by show B ≤ wr.heap.size; omega) (htx.below HBL.out.drew hB) (hty.below HBL.out.drew hB)
        obtain ⟨hc0, hc1, hc2, hc3, hc4, hc5, hc6, hc7, hc8, hc9, hc10⟩ := range11 hcells1
        obtain ⟨he0, he1, he2, he3, he4, he5, he6, he7, he8, he9, he10⟩ := range11 hcells2
        generalize sameT ts[k] us[k] = z at hcall hst
        have HCALL : Hid (∀ V, V = wr.drew → Calls Try.prog 38 #[.agg #[q0, q1, q2, q3, q4, q5, q6, q7, q8, q9, q10], .agg #[p0, p1, p2, p3, p4, p5, p6, p7, p8, p9, p10]] V (Tells z V)) := Lib.hid fun V hV => by rw [hV]; exact hcall
        have HST := Lib.hid hst
        clear hcall hst hcA hcC hcells1 hcells2 hget1 hget2 hx hy htx hty hrl1 hrl2 h11a h11b
        have hbA' : bA < wr.heap.size := by omega
        have hbC' : bC < wr.heap.size := by omega
        cases hnm : (n.toList == m.toList)
        · have HNM := Lib.hid hnm
          go_wp2
          refine region_seq 25 (Kept wr.heap.size wr) (by kernel_rfl) (by kernel_rfl) (Kept.refl _) (fun hHeld => ?_)
          repeat (first | (refine seq_take_free (v := ?_) (by kernel_rfl) rfl (fun _ _ _ h => h) hHeld ?_ ?_; rotate_left; (focus (((intro w hSw; obtain ⟨hk1, hk2⟩ := Kept.cells hSw; clear hSw; go_simp) <;> with_reducible rfl); done)); (try simp only [Act.put, List.setIfInBounds_toArray, List.set_cons_zero, List.set_cons_succ])) | (refine seq_take_on (v := ?_) (by kernel_rfl) rfl rfl rfl (fun _ _ _ h => h) hHeld ?_ ?_; rotate_left; (focus (((intro w hSw; obtain ⟨hk1, hk2⟩ := Kept.cells hSw; clear hSw; go_simp) <;> with_reducible rfl); done)); (try simp only [Act.put, List.setIfInBounds_toArray, List.set_cons_zero, List.set_cons_succ])) | (refine seq_off (by kernel_rfl) rfl rfl rfl (fun _ _ _ h => h) hHeld ?_; (try simp only [Act.put, List.setIfInBounds_toArray, List.set_cons_zero, List.set_cons_succ])))
          refine seq_done ?_
          go_wp2
          go_ret
          have h3 := HST.out
          simp only [HNM.out, Bool.false_and] at h3
          exact ⟨by rw [← h3]; rfl, HBL.out.trans (hHeld.below.mono hsz)⟩
        · have HNM := Lib.hid hnm
          cases z
          all_goals
            go_wp2
            refine region_seq 25 (Kept wr.heap.size wr) (by kernel_rfl) (by kernel_rfl) (Kept.refl _) (fun hHeld => ?_)
            repeat (first | (refine seq_take_free (v := ?_) (by kernel_rfl) rfl (fun _ _ _ h => h) hHeld ?_ ?_; rotate_left; (focus (((intro w hSw; obtain ⟨hk1, hk2⟩ := Kept.cells hSw; clear hSw; go_simp) <;> with_reducible rfl); done)); (try simp only [Act.put, List.setIfInBounds_toArray, List.set_cons_zero, List.set_cons_succ])) | (refine seq_take_on (v := ?_) (by kernel_rfl) rfl rfl rfl (fun _ _ _ h => h) hHeld ?_ ?_; rotate_left; (focus (((intro w hSw; obtain ⟨hk1, hk2⟩ := Kept.cells hSw; clear hSw; go_simp) <;> with_reducible rfl); done)); (try simp only [Act.put, List.setIfInBounds_toArray, List.set_cons_zero, List.set_cons_succ])) | (refine seq_off (by kernel_rfl) rfl rfl rfl (fun _ _ _ h => h) hHeld ?_; (try simp only [Act.put, List.setIfInBounds_toArray, List.set_cons_zero, List.set_cons_succ])))
            refine seq_call_on (by kernel_rfl) rfl rfl rfl (fun K hK => ?_)
            go_simp
            (refine (HCALL.out _ rfl).mono ?_; rintro e w1 ⟨rfl, hb1⟩)
            refine hK.out _ _ ?_ (fun hHeld2 => ?_)
            · exact hHeld.step hb1 (Nat.le_refl _)
            clear hK K hHeld
            have hHeld := hHeld2
            clear hHeld2
            (try simp only [Act.put, List.setIfInBounds_toArray, List.set_cons_zero, List.set_cons_succ])
            repeat (first | (refine seq_take_free (v := ?_) (by kernel_rfl) rfl (fun _ _ _ h => h) hHeld ?_ ?_; rotate_left; (focus (((intro w hSw; obtain ⟨hk1, hk2⟩ := Kept.cells hSw; clear hSw; go_simp) <;> with_reducible rfl); done)); (try simp only [Act.put, List.setIfInBounds_toArray, List.set_cons_zero, List.set_cons_succ])) | (refine seq_take_on (v := ?_) (by kernel_rfl) rfl rfl rfl (fun _ _ _ h => h) hHeld ?_ ?_; rotate_left; (focus (((intro w hSw; obtain ⟨hk1, hk2⟩ := Kept.cells hSw; clear hSw; go_simp) <;> with_reducible rfl); done)); (try simp only [Act.put, List.setIfInBounds_toArray, List.set_cons_zero, List.set_cons_succ])) | (refine seq_off (by kernel_rfl) rfl rfl rfl (fun _ _ _ h => h) hHeld ?_; (try simp only [Act.put, List.setIfInBounds_toArray, List.set_cons_zero, List.set_cons_succ])))
            refine seq_done ?_
            go_wp2
          · go_ret
            have h3 := HST.out
            simp only [Bool.false_and, Bool.and_false] at h3
            exact ⟨by rw [← h3]; rfl, HBL.out.trans (hHeld.below.mono hsz)⟩
          · go_roundw
            case rel => exact ⟨k + 1, by omega, by go_num, by simpa [HNM.out] using HST.out, HBL.out.trans (hHeld.below.mono hsz)⟩
            case measure => simp [intOf]; omega
      · obtain rfl : k = ts.length := by omega
        go_wp2
        go_ret
        have h3 := HEQ.out
        rw [List.drop_of_length_le (Nat.le_refl _)] at h3
        simp only [samesE] at h3
        exact ⟨by rw [← h3]; rfl, HBL.out⟩
  · have hb0 : ((ts.length : Int) != (us.length : Int)) = true := by simp; omega
    have hd : (decide (ts.length = us.length) && samesE ts ns ms us) = false := by simp [hne]
    rw [hd]
    clear h1 h2 t1 t2 ih hd hne
    go_enter Try.func62, Try.ntmps62
    go_wp2
    go_ret
    exact ⟨rfl, Below.refl _ _⟩
set_option maxRecDepth 20000 in
theorem same_8 {b : Bool} {i : Int} {f : Nat} {s : ByteArray} {A5 : Option Addr} {n5 c5 : Nat} {r : Int} {A7 : Option Addr} {n7 c7 : Nat} {A8 : Option Addr} {n8 c8 : Nat} {c : ByteArray} {v : Int}
    {b' : Bool} {i' : Int} {f' : Nat} {s' : ByteArray} {B5 : Option Addr} {m5 d5 : Nat} {r' : Int} {B7 : Option Addr} {m7 d7 : Nat} {B8 : Option Addr} {m8 d8 : Nat} {c' : ByteArray} {v' : Int} {w : World} (z : Bool) (hc : ∀ W, Below w.heap.size w W → Calls Try.prog 61 #[.slice A7 n7 c7, .slice B7 m7 d7] W (Tells z W)) : Calls Try.prog 38 #[.agg #[.int .i64 8, .bool b, .int .i64 i, .float .f64 f, .string s, .slice A5 n5 c5, .int .u64 r, .slice A7 n7 c7, .slice A8 n8 c8, .string c, .int .i64 v], .agg #[.int .i64 8, .bool b', .int .i64 i', .float .f64 f', .string s', .slice B5 m5 d5, .int .u64 r', .slice B7 m7 d7, .slice B8 m8 d8, .string c', .int .i64 v']] w (Tells z w) := by
  have HC := Lib.hid hc
  have HB : Hid (Below w.heap.size w ((w.alloc (.cells #[.int .i64 8, .bool b, .int .i64 i, .float .f64 f, .string s, .slice A5 n5 c5, .int .u64 r, .slice A7 n7 c7, .slice A8 n8 c8, .string c, .int .i64 v] 31)).alloc (.cells #[.int .i64 8, .bool b', .int .i64 i', .float .f64 f', .string s', .slice B5 m5 d5, .int .u64 r', .slice B7 m7 d7, .slice B8 m8 d8, .string c', .int .i64 v'] 31))) := Lib.hid (((Below.refl _ _).alloc (Nat.le_refl _) _).alloc (by simp) _)
  clear hc
  go_enter Try.func38, Try.ntmps38
  go_wp2_with (first | (go_at_call 61; refine (HC.out _ HB.out).mono ?_; rintro e w2 ⟨rfl, hb2⟩))
  go_ret
  exact ⟨rfl, HB.out.trans (hb2.mono HB.out.size)⟩
set_option maxRecDepth 20000 in
theorem same_9 {b : Bool} {i : Int} {f : Nat} {s : ByteArray} {A5 : Option Addr} {n5 c5 : Nat} {r : Int} {A7 : Option Addr} {n7 c7 : Nat} {A8 : Option Addr} {n8 c8 : Nat} {c : ByteArray} {v : Int}
    {b' : Bool} {i' : Int} {f' : Nat} {s' : ByteArray} {B5 : Option Addr} {m5 d5 : Nat} {r' : Int} {B7 : Option Addr} {m7 d7 : Nat} {B8 : Option Addr} {m8 d8 : Nat} {c' : ByteArray} {v' : Int} {w : World} (z : Bool) (hc : ∀ W, Below w.heap.size w W → Calls Try.prog 62 #[.slice A8 n8 c8, .slice B8 m8 d8] W (Tells z W)) : Calls Try.prog 38 #[.agg #[.int .i64 9, .bool b, .int .i64 i, .float .f64 f, .string s, .slice A5 n5 c5, .int .u64 r, .slice A7 n7 c7, .slice A8 n8 c8, .string c, .int .i64 v], .agg #[.int .i64 9, .bool b', .int .i64 i', .float .f64 f', .string s', .slice B5 m5 d5, .int .u64 r', .slice B7 m7 d7, .slice B8 m8 d8, .string c', .int .i64 v']] w (Tells z w) := by
  have HC := Lib.hid hc
  have HB : Hid (Below w.heap.size w ((w.alloc (.cells #[.int .i64 9, .bool b, .int .i64 i, .float .f64 f, .string s, .slice A5 n5 c5, .int .u64 r, .slice A7 n7 c7, .slice A8 n8 c8, .string c, .int .i64 v] 31)).alloc (.cells #[.int .i64 9, .bool b', .int .i64 i', .float .f64 f', .string s', .slice B5 m5 d5, .int .u64 r', .slice B7 m7 d7, .slice B8 m8 d8, .string c', .int .i64 v'] 31))) := Lib.hid (((Below.refl _ _).alloc (Nat.le_refl _) _).alloc (by simp) _)
  clear hc
  go_enter Try.func38, Try.ntmps38
  go_wp2_with (first | (go_at_call 62; refine (HC.out _ HB.out).mono ?_; rintro e w2 ⟨rfl, hb2⟩))
  go_ret
  exact ⟨rfl, HB.out.trans (hb2.mono HB.out.size)⟩
set_option maxRecDepth 20000 in
set_option maxHeartbeats 2000000 in
theorem same_10 {b : Bool} {i : Int} {f : Nat} {s : ByteArray} {A5 : Option Addr} {n5 c5 : Nat} {r : Int} {A7 : Option Addr} {n7 c7 : Nat} {A8 : Option Addr} {n8 c8 : Nat} {c : ByteArray} {v : Int}
    {b' : Bool} {i' : Int} {f' : Nat} {s' : ByteArray} {B5 : Option Addr} {m5 d5 : Nat} {r' : Int} {B7 : Option Addr} {m7 d7 : Nat} {B8 : Option Addr} {m8 d8 : Nat} {c' : ByteArray} {v' : Int} {w : World} (z : Bool) (hc : ∀ W, Below w.heap.size w W → Calls Try.prog 62 #[.slice A8 n8 c8, .slice B8 m8 d8] W (Tells z W)) : Calls Try.prog 38 #[.agg #[.int .i64 10, .bool b, .int .i64 i, .float .f64 f, .string s, .slice A5 n5 c5, .int .u64 r, .slice A7 n7 c7, .slice A8 n8 c8, .string c, .int .i64 v], .agg #[.int .i64 10, .bool b', .int .i64 i', .float .f64 f', .string s', .slice B5 m5 d5, .int .u64 r', .slice B7 m7 d7, .slice B8 m8 d8, .string c', .int .i64 v']] w (Tells ((c.toList == c'.toList) && ((v == v') && z)) w) := by
  have HC := Lib.hid hc
  have HB0 : Hid (Below w.heap.size w ((w.alloc (.cells #[.int .i64 10, .bool b, .int .i64 i, .float .f64 f, .string s, .slice A5 n5 c5, .int .u64 r, .slice A7 n7 c7, .slice A8 n8 c8, .string c, .int .i64 v] 31)).alloc (.cells #[.int .i64 10, .bool b', .int .i64 i', .float .f64 f', .string s', .slice B5 m5 d5, .int .u64 r', .slice B7 m7 d7, .slice B8 m8 d8, .string c', .int .i64 v'] 31))) := Lib.hid (((Below.refl _ _).alloc (Nat.le_refl _) _).alloc (by simp) _)
  clear hc
  cases hn : (c.toList == c'.toList)
  · have HN := Lib.hid hn
    go_enter Try.func38, Try.ntmps38
    go_wp2_with fail
    go_ret
    exact ⟨by simp, HB0.out⟩
  · have HN := Lib.hid hn
    cases hv : (v == v')
    · have HV := Lib.hid hv
      go_enter Try.func38, Try.ntmps38
      go_wp2_with fail
      go_ret
      exact ⟨by simp, HB0.out⟩
    · have HV := Lib.hid hv
      go_enter Try.func38, Try.ntmps38
      go_wp2_with (first | (go_at_call 62; refine (HC.out _ HB0.out).mono ?_; rintro e w2 ⟨rfl, hb2⟩))
      go_ret
      exact ⟨by simp, HB0.out.trans (hb2.mono HB0.out.size)⟩

theorem same_any : ∀ (k : Nat) (t : Tm), SizeOf.sizeOf t < k → SameAt t := by
  intro k
  induction k with
  | zero => intro t ht; omega
  | succ k ih =>
    intro t ht u cs ds w B hB h1 h2
    cases t with
    | mk k0 b i f s bs r l ns vs c v =>
    cases u with
    | mk k1 b' i' f' s' bs' r' l' ns' vs' c' v' =>
      have ihl : ∀ t ∈ l, SameAt t := fun t hm => ih t (by have := List.sizeOf_lt_of_mem hm; simp at ht; omega)
      have ihv : ∀ t ∈ vs, SameAt t := fun t hm => ih t (by have := List.sizeOf_lt_of_mem hm; simp at ht; omega)
      clear ih ht
      simp only [TmAt] at h1 h2
      obtain ⟨A5, c5, A7, c7, A8, c8, rfl, p5, ⟨rows7, p7, q7⟩, pn, ⟨rows8, p8, q8⟩, pb, pw⟩ := h1
      obtain ⟨B5, d5, B7, d7, B8, d8, rfl, r5, ⟨rous7, r7, s7⟩, rn, ⟨rous8, r8, s8⟩, rb, rw'⟩ := h2
      by_cases hk : k0 = k1
      · subst hk
        have hLists : ∀ W, Below w.heap.size w W → Calls Try.prog 61 #[.slice A7 l.length c7, .slice B7 l'.length d7] W (Tells (decide (l.length = l'.length) && samesT l l') W) := fun W hW =>
          lists_any l l' rows7 rous7 A7 B7 c7 d7 W B (Nat.le_trans hB hW.size) (p7.below hW hB) (r7.below hW hB) (q7.below hW hB) (s7.below hW hB) pb.2.2.1 rb.2.2.1 ihl
        have hEnts : ∀ W, Below w.heap.size w W → Calls Try.prog 62 #[.slice A8 vs.length c8, .slice B8 vs'.length d8] W (Tells (decide (vs.length = vs'.length) && samesE vs ns ns' vs') W) := fun W hW =>
          entriesS_any vs vs' ns ns' rows8 rous8 A8 B8 c8 d8 W B (Nat.le_trans hB hW.size) (p8.below hW hB) (r8.below hW hB) (q8.below hW hB) (s8.below hW hB) pn rn pb.2.2.2.1 rb.2.2.2.1 ihv
        rw [sameT, if_pos rfl]
        by_cases k1 : k0 = 1 ∨ k0 = 11
        · rw [if_pos k1]
          rcases k1 with rfl | rfl
          · exact same_1
          · exact same_11
        rw [if_neg k1]
        by_cases k2 : k0 = 2
        · subst k2; rw [if_pos rfl]; exact same_2
        rw [if_neg k2]
        by_cases k3 : k0 = 3
        · subst k3; rw [if_pos rfl]; exact same_3
        rw [if_neg k3]
        by_cases k4 : k0 = 4
        · subst k4; rw [if_pos rfl]; exact same_4
        rw [if_neg k4]
        by_cases k5 : k0 = 5
        · subst k5; rw [if_pos rfl]; exact same_5
        rw [if_neg k5]
        by_cases k6 : k0 = 6
        · subst k6; rw [if_pos rfl]; exact same_6 B hB p5 r5
        rw [if_neg k6]
        by_cases k7 : k0 = 7
        · subst k7; rw [if_pos rfl]; exact same_7
        rw [if_neg k7]
        by_cases k8 : k0 = 8
        · subst k8; rw [if_pos rfl]; exact same_8 _ hLists
        rw [if_neg k8]
        by_cases k9 : k0 = 9
        · subst k9; rw [if_pos rfl]; exact same_9 _ hEnts
        rw [if_neg k9]
        by_cases k10 : k0 = 10
        · subst k10; rw [if_pos rfl]; exact same_10 _ hEnts
        rw [if_neg k10]
        have hb : ∀ n : Int, k0 ≠ n → (k0 == n) = false := fun n h => by simp [h]
        exact same_none _ (hb 1 (fun e => k1 (.inl e))) (hb 2 k2) (hb 3 k3) (hb 4 k4) (hb 5 k5) (hb 6 k6) (hb 7 k7) (hb 8 k8) (hb 9 k9) (hb 10 k10) (hb 11 (fun e => k1 (.inr e)))
      · rw [sameT, if_neg hk]
        exact same_kinds _ _ (by simpa using hk)
theorem same (t : Tm) : SameAt t := same_any _ t (Nat.lt_succ_self _)
end Go.Proofs.Ythanmakakcmkeaa
