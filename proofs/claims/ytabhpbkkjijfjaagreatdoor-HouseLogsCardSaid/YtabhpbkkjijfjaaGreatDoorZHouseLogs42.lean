/-
  Whole numbers: add. (The two walks are printed by wip/bin/addgen.py.); Whole numbers: mul by a number of one word; Whole numbers: cmp, Cmp; Whole numbers: Cmp, Uint64, Int64; Whole numbers: twin; small (a division by one word).
-/
import Derived.Laws.Bits64
import Derived.Laws.AppendOwnNone
import Derived.Test.YtabhpbkkjijfjaaGreatDoorZHouseLogs41
import Derived.Test.YtabhpbkkjijfjaaGreatDoorZHouseLogs6
namespace Go.Proofs.YtabhpbkkjijfjaaGreatDoor
set_option maxRecDepth 100000
open Go.RowKit

/-- Block g holds the words R, and k noughts behind them. -/
def RowR (w : World) (g : Nat) (R : List Nat) (k : Nat) : Prop := w.heap[g]? = some (.cells ((R ++ List.replicate k 0).map u32V).toArray 175 (0, 0))
theorem rowR_set (R : List Nat) (k x : Nat) : ((R ++ List.replicate (k + 1) 0).map u32V).toArray.setIfInBounds R.length (u32V x) = (((R ++ [x]) ++ List.replicate k 0).map u32V).toArray := by
  simp only [List.setIfInBounds_toArray]
  congr 1
  rw [← List.map_set]
  congr 1
  rw [List.set_append_right _ _ (Nat.le_refl _), Nat.sub_self, List.replicate_succ, List.set_cons_zero, List.append_assoc]
  rfl
theorem RowR.set {w : World} {g k : Nat} {R : List Nat} (h : RowR w g R (k + 1)) (x : Nat) : RowR (w.setCell ⟨g, R.length, none⟩ (u32V x)) g (R ++ [x]) k := by
  unfold RowR at *
  rw [Joins.block_setCell h, rowR_set]
theorem RowR.sl {w : World} {g : Nat} {R : List Nat} (h : RowR w g R 0) (hl : R.length ≤ 1000000) : Sl w 1 4 (some ⟨g, 0, none⟩) R.length R.length (R.map u32V) :=
  sl_fresh (ty := 175) (by have h := h; unfold RowR at h; simpa using h) hl
theorem infoWord : (Tryz.prog.info? 175).map (fun i => (i.zero, i.size, i.bytes)) = some (some (.int .u32 0), 1, 4) := by kernel_rfl
/-- A row of noughts. -/
def zerosW (c : Nat) : Array Value := ((([] : List Nat) ++ List.replicate c 0).map u32V).toArray
theorem make_words (c : Nat) (hc : c ≤ 1000000) (w : World) :
    (Instr.makeSlice 132 (.int .i64 (c : Int)) (.int .i64 (c : Int))).run Tryz.prog w = .ok (.slice (some ⟨w.heap.size, 0, none⟩) c c) (w.alloc (.cells (zerosW c) 175)) := by
  obtain ⟨i0, hi, hz0, hz1, hz2⟩ := info_parts infoWord
  have h := run_make_rowN (P := Tryz.prog) 132 175 i0 _ Tryz.underlying132 hi hz0 .i64 .i64 c c (Nat.le_refl _) (by rw [hz2]; omega) (by omega) w
  rw [h]
  congr 2
  rw [hz1, Nat.mul_one]
  have e : madeCells (Value.int IntKind.u32 0).cells c = zerosW c := by
    apply Array.toList_inj.1
    show (madeCells #[Value.int IntKind.u32 0] c).toList = _
    rw [toList_madeCells_one]; simp [u32V, zerosW]
  rw [e]
end Go.Proofs.YtabhpbkkjijfjaaGreatDoor
namespace Go.Proofs.YtabhpbkkjijfjaaGreatDoor
set_option maxRecDepth 100000
open Go.RowKit

/-- Block g holds the words ws. -/
def RowL (w : World) (g : Nat) (ws : List Nat) : Prop := w.heap[g]? = some (.cells (ws.map u32V).toArray 175 (0, 0))
theorem RowL.set {w : World} {g : Nat} {ws : List Nat} (h : RowL w g ws) (i x : Nat) : RowL (w.setCell ⟨g, i, none⟩ (u32V x)) g (ws.set i x) := by
  unfold RowL at *
  rw [Joins.block_setCell h]
  simp only [List.setIfInBounds_toArray]
  rw [List.map_set]
theorem RowL.cell {w : World} {g : Nat} {ws : List Nat} (h : RowL w g ws) {i x : Nat} (hx : ws[i]? = some x) : w.cell? ⟨g, i, none⟩ = some (.int .u32 x) := by
  unfold RowL at h
  rw [Joins.cell_of_block h]
  simp [hx, u32V]
theorem set_mid (R : List Nat) (y x : Nat) (zs : List Nat) : (R ++ y :: zs).set R.length x = R ++ x :: zs := by
  rw [List.set_append_right _ _ (Nat.le_refl _), Nat.sub_self, List.set_cons_zero]
end Go.Proofs.YtabhpbkkjijfjaaGreatDoor
namespace Go.Proofs.YtabhpbkkjijfjaaGreatDoor
set_option maxRecDepth 100000
open Go.RowKit

def cmpN (n m : Nat) : Int := if n < m then -1 else if n = m then 0 else 1
theorem cmpN_less {n m : Nat} (h : n < m) : cmpN n m = -1 := by rw [cmpN, if_pos h]
theorem cmpN_more {n m : Nat} (h : m < n) : cmpN n m = 1 := by rw [cmpN, if_neg (by omega), if_neg (by omega)]
theorem cmpN_same (n : Nat) : cmpN n n = 0 := by rw [cmpN, if_neg (by omega), if_pos rfl]
end Go.Proofs.YtabhpbkkjijfjaaGreatDoor
namespace Go.Proofs.YtabhpbkkjijfjaaGreatDoor
set_option maxRecDepth 100000
open Go.RowKit

theorem or_u64 (a b : Nat) (ha : a < 18446744073709551616) (hb : b < 18446744073709551616) : bits .or .u64 (a : Int) (b : Int) = ((a ||| b : Nat) : Int) := by
  have hx : a ||| b < 2 ^ 64 := Nat.or_lt_two_pow (by omega) (by omega)
  have h1 : (BitVec.ofInt 64 (a : Int)).toNat = a := by
    rw [BitVec.ofInt_natCast, BitVec.toNat_ofNat]; exact Nat.mod_eq_of_lt (by omega)
  have h2 : (BitVec.ofInt 64 (b : Int)).toNat = b := by
    rw [BitVec.ofInt_natCast, BitVec.toNat_ofNat]; exact Nat.mod_eq_of_lt (by omega)
  have h3 : bits .or .u64 (a : Int) (b : Int) = IntKind.u64.wrap (((BitVec.ofInt 64 (a : Int) ||| BitVec.ofInt 64 (b : Int)).toNat : Nat) : Int) := rfl
  rw [h3, BitVec.toNat_or, h1, h2, IntKind.wrap_u64]
  omega
theorem or_words (x y : Nat) (hx : x < 4294967296) (hy : y < 4294967296) : bits .or .u64 (x : Int) ((y : Int) * 4294967296) = ((x + 4294967296 * y : Nat) : Int) := by
  have e : (y : Int) * 4294967296 = ((y * 4294967296 : Nat) : Int) := by omega
  rw [e, or_u64 x _ (by omega) (by omega), Nat.or_comm]
  have h : y <<< 32 ||| x = y <<< 32 + x := (Nat.shiftLeft_add_eq_or_of_lt (by omega) y).symm
  rw [show y * 4294967296 = y <<< 32 by rw [Nat.shiftLeft_eq], h, Nat.shiftLeft_eq]
  omega
theorem bigAt_read {w : World} {p n : Nat} (h : BigAt w p n) : ∃ a c, w.cell? ⟨p, 0, none⟩ = some (.bool false) ∧ w.cell? ⟨p, 1, none⟩ = some (.slice a (wordsN n).length c) ∧ Sl w 1 4 a (wordsN n).length c ((wordsN n).map u32V) := by
  obtain ⟨v, hb, a, c, rfl, hs, _⟩ := h
  exact ⟨a, c, Joins.cell_of_block hb 0, Joins.cell_of_block hb 1, hs⟩
end Go.Proofs.YtabhpbkkjijfjaaGreatDoor
namespace Go.Proofs.YtabhpbkkjijfjaaGreatDoor
set_option maxRecDepth 100000
open Go.RowKit

theorem abs_of_own {w : World} {base n : Nat} {v : Value} (hn : n < bigTop) (h : w.ownsRow base 175 1 v (wordsN n).length ((wordsN n).map u32V)) : AbsOf w v n := by
  have hl := wordsN_len hn
  obtain ⟨a, c, e, hs⟩ := sl_of_own (bytes := 4) h (by omega)
  refine ⟨a, c, e, hs, fun b o x hx => ?_⟩
  rcases h.2 with ⟨h0, _⟩ | ⟨g, cap, cur, h0, _, hg, _⟩
  · rw [h0] at e
    simp only [Value.slice.injEq] at e
    rw [← e.1] at hx
    cases hx
  · rw [h0] at e
    simp only [Value.slice.injEq] at e
    rw [← e.1] at hx
    simp only [Option.some.injEq, Addr.mk.injEq] at hx
    obtain ⟨rfl, _⟩ := hx
    exact ⟨cur, (0, 0), hg⟩
theorem u32_one (ws : List Nat) : ∀ u ∈ ws.map u32V, u.oneCell' = true := by
  intro u hu
  obtain ⟨x, _, rfl⟩ := List.mem_map.1 hu
  rfl
set_option maxHeartbeats 1000000 in
theorem twin_any (n : Nat) (v : Value) (w : World) (hn : n < bigTop) (hv : AbsOf w v n) :
    Calls Tryz.prog 90 #[v] w fun e w' => (∃ v', e = .returned v' ∧ AbsOf w' v' n) ∧ Below w.heap.size w w' := by
  obtain ⟨i0, hi, hz0, hz1, hz2⟩ := info_parts infoWord
  have hl2 := wordsN_len hn
  obtain ⟨a, c, rfl, hs, _⟩ := hv
  have HL := Lib.hid hs.len
  match ha : a with
  | none =>
    have hc : c = 0 := hs.nil rfl
    have hk0 : (wordsN n).length = 0 := by have := hs.room; omega
    have hn0 : n = 0 := wordsN_nil.1 hk0
    subst hc
    subst hn0
    rw [wordsN_zero, show ([] : List Nat).length = 0 from rfl]
    clear hs HL hk0
    go_enter Tryz.func90, Tryz.ntmps90
    go_wp2_with ((at_builtin; refine wpList_append_own_none rfl _ _ 132 rfl w.heap.size 175 i0 1 Tryz.underlying132 hi _ 0 [] rfl (World.ownsRow_nil _ _ _ _) rfl ?_))
    refine bodyPost_ret (v := .slice none 0 0) (by simp [results, Tryz.results90, go_sem]) rfl ⟨⟨_, rfl, abs_of_own (base := 0) hn (World.ownsRow_nil _ _ _ _)⟩, Below.refl _ _⟩
  | some ad =>
    have hW : ∀ j u, ((wordsN n).map u32V)[j]? = some u → w.cell? (ad.add j) = some u := hs.news
    obtain ⟨L, hL⟩ : ∃ L, L = (wordsN n).length := ⟨_, rfl⟩
    obtain ⟨fl, hfl⟩ : ∃ fl, fl = (wordsN n).map u32V := ⟨_, rfl⟩
    have h1 : ∀ u ∈ fl, u.oneCell' = true := by rw [hfl]; exact u32_one _
    have hlen : fl.length = L * 1 := by rw [hfl, List.length_map, hL, Nat.mul_one]
    have HA2 : Aside (∀ (v : Value) (w2 : World), w2.ownsRow w.heap.size 175 1 v L fl → AbsOf w2 v n) := by
      show ∀ (v : Value) (w2 : World), w2.ownsRow w.heap.size 175 1 v L fl → AbsOf w2 v n
      intro v w2 h
      rw [hL, hfl] at h
      exact abs_of_own hn h
    rw [← hfl] at hW
    rw [← hL] at hl2 ⊢
    have H1 := Lib.hid h1
    have HW := Lib.hid hW
    have HLEN := Lib.hid hlen
    clear hs HL hL hfl h1 hW hlen
    go_enter Tryz.func90, Tryz.ntmps90
    go_wp2_with ((at_builtin; refine wpList_append_own_at _ rfl _ _ 132 rfl w.heap.size 175 i0 _ 1 4 Tryz.underlying132 hi hz0 hz1 hz2 rfl (by omega) (.slice none 0 0) 0 [] rfl (World.ownsRow_nil _ _ _ _) ad L c fl rfl HLEN.out HW.out H1.out (by unfold maxLen; omega) (by omega) (by simp) ?_; intro v1 w1 hown1 hgrow1 hnil1 hat1; rw [Nat.zero_add, List.nil_append] at hown1; obtain ⟨va, vc, rfl⟩ := own_form hown1; clear hnil1 hat1))
    refine bodyPost_ret (v := .slice va L vc) (by simp [results, Tryz.results90, go_sem]) rfl ⟨⟨_, rfl, HA2.out _ _ hown1⟩, (Below.refl _ _).grown hgrow1 (Nat.le_refl _) (by simp [Value.ownBlock])⟩
theorem div_step {r x d : Nat} (hr : r < d) (hd : d < 4294967296) (hx : x < 4294967296) : r * 4294967296 + x < 18446744073709551616 ∧ (r * 4294967296 + x) / d < 4294967296 := by
  refine ⟨by omega, ?_⟩
  rw [Nat.div_lt_iff_lt_mul (by omega)]
  have : r * 4294967296 + 4294967296 ≤ d * 4294967296 := by rw [← Nat.succ_mul]; exact Nat.mul_le_mul_right _ hr
  rw [Nat.mul_comm 4294967296 d]
  omega
theorem or_high (r x : Nat) (hr : r < 4294967296) (hx : x < 4294967296) : bits .or .u64 ((r : Int) * 4294967296) (x : Int) = ((r * 4294967296 + x : Nat) : Int) := by
  have e : (r : Int) * 4294967296 = ((r * 4294967296 : Nat) : Int) := by omega
  rw [e, or_u64 _ _ (by omega) (by omega)]
  have h : r <<< 32 ||| x = r <<< 32 + x := (Nat.shiftLeft_add_eq_or_of_lt (by omega) r).symm
  rw [show r * 4294967296 = r <<< 32 by rw [Nat.shiftLeft_eq], h]
set_option maxHeartbeats 4000000 in
theorem small_any (n d : Nat) (u : Value) (w : World) (hd0 : 0 < d) (hd1 : d < 4294967296) (hn0 : 0 < n) (hn : n < bigTop) (hu : AbsOf w u n) :
    Calls Tryz.prog 91 #[u, .int .u32 d] w fun e w' => (∃ r, e = .returned (.tuple #[r, .int .u32 (n % d : Nat)]) ∧ AbsOf w' r (n / d)) ∧ Below w.heap.size w w' := by
  obtain ⟨a, ca, rfl, hsa, _⟩ := hu
  have hlt := wordsN_lt n
  have hva := wordsN_val n
  have hl2 := wordsN_len hn
  have hl0 : (wordsN n).length ≠ 0 := fun h => by have := wordsN_nil.1 h; omega
  obtain ⟨A, hA⟩ : ∃ A, A = wordsN n := ⟨_, rfl⟩
  rw [← hA] at hsa hlt hva hl2 hl0 ⊢
  obtain ⟨la, hLA⟩ : ∃ la, la = A.length := ⟨_, rfl⟩
  rw [← hLA] at hsa hl2 hl0 ⊢
  have HSA := Lib.hid hsa
  have HLA := Lib.hid hLA
  have HTA := Lib.hid hlt
  have HVA := Lib.hid hva
  have HN := Lib.hid hn
  have hmk := make_words la (by omega) w
  have hST := DivSt.start A hd0
  rw [← hLA] at hST
  have HST := Lib.hid hST
  have hdz : ((d : Int) == 0) = false := by simp; omega
  have hdz2 : (d == 0) = false := by simp; omega
  have hqd : ∀ x y : Nat, (x : Int) / (y : Int) = ((x / y : Nat) : Int) := fun x y => by simp
  have hqm : ∀ x y : Nat, (x : Int) % (y : Int) = ((x % y : Nat) : Int) := fun x y => by simp
  have HQD := Lib.hid hqd
  have HQM := Lib.hid hqm
  clear hsa hA hLA hlt hva hST hn hqd hqm
  go_enter Tryz.func91, Tryz.ntmps91
  go_wp2_with fail
  obtain ⟨W, hW⟩ : ∃ W, W = w.alloc (.cells (zerosW la) 175) := ⟨_, rfl⟩
  have hR0 : RowL W w.heap.size (List.replicate la 0 ++ []) := by rw [hW, List.append_nil]; exact blk_last w _ rfl
  have hB0 : Below w.heap.size w W := by rw [hW]; exact (Below.refl _ _).alloc (Nat.le_refl _) _
  rw [← hW]
  clear hW hmk
  go_loopw [7, 8] (fun rv i wr => ∃ (k r : Nat) (Q : List Nat), rv = .int .u64 r ∧ i = .int .i64 ((k : Int) - 1) ∧ k ≤ la ∧ r < d ∧ Aside (DivSt A Q d k r) ∧ Aside (RowL wr w.heap.size (List.replicate k 0 ++ Q)) ∧ Below w.heap.size w wr) (fun _ i _ => (intOf i + 1).toNat)
  case atStart => exact ⟨la, 0, [], rfl, rfl, Nat.le_refl _, hd0, HST.out, hR0, hB0⟩
  case round =>
    clear hR0 hB0
    obtain ⟨k, r, Q, rfl, rfl, hk, hr, HD, HR, hBw⟩ := hrel
    rcases Nat.eq_zero_or_pos k with rfl | hk0
    · have hd : decide (0 ≤ ((0 : Nat) : Int) - 1) = false := by decide
      have hd' : decide (((0 : Nat) : Int) - 1 ≥ 0) = false := by decide
      obtain ⟨h1, h2, h3⟩ := HD.out.ends
      rw [HVA.out] at h1 h2
      have hql : Q.length = la := by rw [h3, HLA.out]
      have hRQ : RowL wr w.heap.size Q := by have := HR.out; simpa using this
      have HT := Lib.hid (trim_any Q (some ⟨w.heap.size, 0, none⟩) Q.length wr (by omega) HD.out.lt (sl_fresh (ty := 175) hRQ (by omega)) (fun b o x hx => by cases hx; exact ⟨_, _, hRQ⟩))
      rw [h1, hql] at HT
      have HM := Lib.hid h2
      clear h1 h2 h3 hql hRQ
      go_wp2_with fail
      refine HT.out.mono ?_
      rintro e w' ⟨⟨v, rfl, hv⟩, rfl⟩
      have HV := Lib.hid hv
      clear hv
      go_wp2_with fail
      go_ret2
      exact ⟨⟨v, by rw [HM.out]; rfl, HV.out⟩, hBw⟩
    · obtain ⟨j, rfl⟩ : ∃ j, k = j + 1 := ⟨k - 1, by omega⟩
      have hj : ((j + 1 : Nat) : Int) - 1 = (j : Int) := by omega
      rw [hj]
      obtain ⟨x, hx⟩ : ∃ x, A[j]? = some x := ⟨A[j]'(by have := HLA.out; omega), by simp⟩
      have hx1 : x < 4294967296 := HTA.out x (List.mem_of_getElem? hx)
      have HNX := Lib.hid (HD.out.next hx hx1 (by have := HLA.out; omega))
      obtain ⟨hs1, hq1⟩ := div_step hr hd1 hx1
      have hor := or_high r x (by omega) hx1
      obtain ⟨s, hs⟩ : ∃ s, s = r * 4294967296 + x := ⟨_, rfl⟩
      rw [← hs] at HNX hs1 hq1 hor
      have hqI := HQD.out s d
      have hmI := HQM.out s d
      obtain ⟨q, hq⟩ : ∃ q, q = s / d := ⟨_, rfl⟩
      obtain ⟨m, hm⟩ : ∃ m, m = s % d := ⟨_, rfl⟩
      have hmd : m < d := by rw [hm]; exact Nat.mod_lt _ hd0
      rw [← hq] at HNX hq1 hqI
      rw [← hm] at HNX hmI
      obtain ⟨p, o, rfl, hrw⟩ := (HSA.out.below (by omega) hBw).row (by omega)
      have hc0 : wr.cell? ⟨p, o + j, none⟩ = some (.int .u32 x) := hrw j _ (by rw [List.getElem?_map, hx]; rfl)
      have fr : wr.frozen? ⟨w.heap.size, j, none⟩ = false := Joins.unfrozen_of_block HR.out j
      have hc1 : wr.cell? ⟨w.heap.size, j, none⟩ = some (.int .u32 (0 : Nat)) := HR.out.cell (by rw [List.getElem?_append_left (by simp), List.getElem?_replicate, if_pos (by omega)])
      have hjl : j < la := by omega
      have hset : RowL (wr.setCell ⟨w.heap.size, j, none⟩ (.int .u32 (q : Nat))) w.heap.size (List.replicate j 0 ++ q :: Q) := by
        have h := RowL.set (w := wr) HR.out j q
        rw [List.replicate_succ', List.append_assoc, show ([0] : List Nat) ++ Q = 0 :: Q from rfl] at h
        have e := set_mid (List.replicate j 0) 0 q Q
        rw [List.length_replicate] at e
        rw [e] at h
        exact h
      have HSET := Lib.hid hset
      have HB2 := Lib.hid (hBw.setCell (p := ⟨w.heap.size, j, none⟩) (Nat.le_refl _) (.int .u32 (q : Nat)))
      have hgl : w.heap.size < wr.heap.size := lt_of_block HR.out
      have hge : decide ((j : Int) ≥ 0) = true := decide_eq_true (by omega)
      have hge' : decide (0 ≤ (j : Int)) = true := decide_eq_true (by omega)
      clear hx hrw hset hs hq hm hj
      go_wp2_with fail
      exact ⟨⟨j, m, q :: Q, by go_num, by go_num, by omega, hmd, HNX.out, HSET.out, HB2.out⟩, by simp [intOf]⟩
end Go.Proofs.YtabhpbkkjijfjaaGreatDoor
