/-
  Whole numbers: add. (The two walks are printed by wip/bin/addgen.py.)
-/
import Derived.Test.YtjbkfkgdpbjliaaDoorWordsB
namespace Go.Proofs.YtjbkfkgdpbjliaaDoor
set_option maxRecDepth 100000
open Go.RowKit

/-- Block g holds the words R, and k noughts behind them. -/
def RowR (w : World) (g : Nat) (R : List Nat) (k : Nat) : Prop := w.heap[g]? = some (.cells ((R ++ List.replicate k 0).map u32V).toArray 66 (0, 0))
theorem rowR_set (R : List Nat) (k x : Nat) : ((R ++ List.replicate (k + 1) 0).map u32V).toArray.setIfInBounds R.length (u32V x) = (((R ++ [x]) ++ List.replicate k 0).map u32V).toArray := by
  simp only [List.setIfInBounds_toArray]
  congr 1
  rw [← List.map_set]
  congr 1
  rw [List.set_append_right _ _ (Nat.le_refl _), Nat.sub_self, List.replicate_succ, List.set_cons_zero, List.append_assoc]
  rfl
theorem RowR.set {w : World} {g k : Nat} {R : List Nat} (h : RowR w g R (k + 1)) (x : Nat) : RowR (w.setCell ⟨g, R.length, none⟩ (u32V x)) g (R ++ [x]) k := by
  unfold RowR at *
  rw [Joins.block_setCell h, rowR_set]
theorem RowR.sl {w : World} {g : Nat} {R : List Nat} (h : RowR w g R 0) (hl : R.length ≤ 1000000) : Sl w 1 4 (some ⟨g, 0, none⟩) R.length R.length (R.map u32V) :=
  sl_fresh (ty := 66) (by have h := h; unfold RowR at h; simpa using h) hl
theorem infoWord : (Tryd.prog.info? 66).map (fun i => (i.zero, i.size, i.bytes)) = some (some (.int .u32 0), 1, 4) := by kernel_rfl
/-- A row of noughts. -/
def zerosW (c : Nat) : Array Value := ((([] : List Nat) ++ List.replicate c 0).map u32V).toArray
theorem make_words (c : Nat) (hc : c ≤ 1000000) (w : World) :
    (Instr.makeSlice 40 (.int .i64 (c : Int)) (.int .i64 (c : Int))).run Tryd.prog w = .ok (.slice (some ⟨w.heap.size, 0, none⟩) c c) (w.alloc (.cells (zerosW c) 66)) := by
  obtain ⟨i0, hi, hz0, hz1, hz2⟩ := info_parts infoWord
  have h := run_make_rowN (P := Tryd.prog) 40 66 i0 _ Tryd.underlying40 hi hz0 .i64 .i64 c c (Nat.le_refl _) (by rw [hz2]; omega) (by omega) w
  rw [h]
  congr 2
  rw [hz1, Nat.mul_one]
  have e : madeCells (Value.int IntKind.u32 0).cells c = zerosW c := by
    apply Array.toList_inj.1
    show (madeCells #[Value.int IntKind.u32 0] c).toList = _
    rw [toList_madeCells_one]; simp [u32V, zerosW]
  rw [e]
set_option maxHeartbeats 2000000 in
theorem add_long (n m : Nat) (a b : Option Addr) (ca cb : Nat) (w : World) (hn : n < bigTop) (hm : m < bigTop)
    (hsa : Sl w 1 4 a (wordsN n).length ca ((wordsN n).map u32V)) (hsb : Sl w 1 4 b (wordsN m).length cb ((wordsN m).map u32V)) (hle : (wordsN m).length ≤ (wordsN n).length) :
    Calls Tryd.prog 34 #[.slice a (wordsN n).length ca, .slice b (wordsN m).length cb] w fun e w' => (∃ v, e = .returned v ∧ AbsOf w' v (n + m)) ∧ Below w.heap.size w w' := by
  have hlta := wordsN_lt n
  have hltb := wordsN_lt m
  have hva := wordsN_val n
  have hvb := wordsN_val m
  have hla := wordsN_len hn
  have hlb := wordsN_len hm
  obtain ⟨A, hA⟩ : ∃ A, A = wordsN n := ⟨_, rfl⟩
  obtain ⟨B, hB⟩ : ∃ B, B = wordsN m := ⟨_, rfl⟩
  rw [← hA] at hsa hlta hva hla hle ⊢
  rw [← hB] at hsb hltb hvb hlb hle ⊢
  obtain ⟨la, hLA⟩ : ∃ la, la = A.length := ⟨_, rfl⟩
  obtain ⟨lb, hLB⟩ : ∃ lb, lb = B.length := ⟨_, rfl⟩
  rw [← hLA] at hsa hla hle ⊢
  rw [← hLB] at hsb hlb hle ⊢
  have HSA := Lib.hid hsa
  have HSB := Lib.hid hsb
  have HLA := Lib.hid hLA
  have HLB := Lib.hid hLB
  have HTA := Lib.hid hlta
  have HTB := Lib.hid hltb
  have HV : Aside (valW A + valW B = n + m) := by show _ = _; omega
  have hmk := make_words (la + 1) (by omega) w
  rw [show ((la + 1 : Nat) : Int) = (la : Int) + 1 from rfl] at hmk
  clear hsa hsb hA hB hLA hLB hlta hltb hva hvb
  have hd : decide (la < lb) = false := by simp; omega
  go_enter Tryd.func34, Tryd.ntmps34
  go_wp2_with fail
  obtain ⟨W, hW⟩ : ∃ W, W = w.alloc (.cells (zerosW (la + 1)) 66) := ⟨_, rfl⟩
  have hR0 : RowR W w.heap.size [] (la + 1) := by rw [hW]; exact blk_last w _ rfl
  have hB0 : Below w.heap.size w W := by rw [hW]; exact (Below.refl _ _).alloc (Nat.le_refl _) _
  rw [← hW]
  clear hW hmk
  go_loopw [6, 7] (fun c i wr => ∃ (k cc : Nat) (R : List Nat), i = .int .i64 k ∧ c = .int .u64 cc ∧ k ≤ la ∧ Aside (AddSt A B R k cc) ∧ Aside (RowR wr w.heap.size R (la + 1 - k)) ∧ Below w.heap.size w wr) (fun _ i _ => la - (intOf i).toNat)
  case atStart => exact ⟨0, 0, [], rfl, rfl, Nat.zero_le _, AddSt.start _ _, hR0, hB0⟩
  case round =>
    clear hR0 hB0
    obtain ⟨k, cc, R, rfl, rfl, hk, HST, HR, hBw⟩ := hrel
    have hcc := HST.out.carry
    have hRl := HST.out.len
    have hgl : w.heap.size < wr.heap.size := lt_of_block HR.out
    by_cases hlt : k < la
    · have hdk : decide (k < la) = true := decide_eq_true (by omega)
      obtain ⟨x, hx⟩ : ∃ x, A[k]? = some x := ⟨A[k]'(by have := HLA.out; omega), by simp⟩
      have hx1 : x < 4294967296 := HTA.out x (List.mem_of_getElem? hx)
      obtain ⟨p, o, rfl, hr⟩ := (HSA.out.below (by omega) hBw).row (by omega)
      have hc0 : wr.cell? ⟨p, o + k, none⟩ = some (.int .u32 x) := hr k _ (by rw [List.getElem?_map, hx]; rfl)
      have fr : wr.frozen? ⟨w.heap.size, k, none⟩ = false := Joins.unfrozen_of_block HR.out k
      have fc : wr.cell? ⟨w.heap.size, k, none⟩ = some (.int .u32 0) := by
        have h := HR.out
        unfold RowR at h
        rw [Joins.cell_of_block h]
        simp only [List.getElem?_toArray, List.getElem?_map]
        rw [List.getElem?_append_right (by omega), hRl, Nat.sub_self, show la + 1 - k = (la - k) + 1 by omega, List.replicate_succ]
        rfl
      have hset : ∀ y, Aside (RowR (wr.setCell ⟨w.heap.size, k, none⟩ (.int .u32 (y : Nat))) w.heap.size (R ++ [y]) (la + 1 - (k + 1))) := fun y => by
        have h := HR.out
        rw [show la + 1 - k = (la + 1 - (k + 1)) + 1 by omega] at h
        have h := h.set y
        rw [hRl] at h
        exact h
      have HSET := Lib.hid hset
      by_cases hkb : k < lb
      · have hdb : decide (k < lb) = true := decide_eq_true (by omega)
        obtain ⟨y, hy⟩ : ∃ y, B[k]? = some y := ⟨B[k]'(by have := HLB.out; omega), by simp⟩
        have hy1 : y < 4294967296 := HTB.out y (List.mem_of_getElem? hy)
        obtain ⟨p', o', rfl, hr'⟩ := (HSB.out.below (by omega) hBw).row (by omega)
        have hc1 : wr.cell? ⟨p', o' + k, none⟩ = some (.int .u32 y) := hr' k _ (by rw [List.getElem?_map, hy]; rfl)
        have HN := Lib.hid (HST.out.next hx hx1 (.inl ⟨hy, hy1⟩))
        obtain ⟨s, hs⟩ : ∃ s, s = cc + x + y := ⟨_, rfl⟩
        have hsI : ((cc : Int) + x + y) = (s : Int) := by omega
        have hsl : s < 8589934592 := by omega
        rw [← hs] at HN
        clear hs
        have HB2 := Lib.hid (hBw.setCell (p := ⟨w.heap.size, k, none⟩) (Nat.le_refl _) (.int .u32 (s % 4294967296 : Nat)))
        clear hx hy hr hr' hset
        go_wp2_with fail
        exact ⟨⟨k + 1, s / 4294967296, R ++ [s % 4294967296], by go_num, by go_num, by omega, HN.out, HSET.out _, HB2.out⟩, by simp [intOf]; omega⟩
      · have hdb : decide (k < lb) = false := decide_eq_false (by omega)
        have HN := Lib.hid (HST.out.next hx hx1 (y := 0) (.inr ⟨by have := HLB.out; omega, rfl⟩))
        rw [Nat.add_zero] at HN
        obtain ⟨s, hs⟩ : ∃ s, s = cc + x := ⟨_, rfl⟩
        have hsI : ((cc : Int) + x) = (s : Int) := by omega
        have hsl : s < 8589934592 := by omega
        rw [← hs] at HN
        clear hs
        have HB2 := Lib.hid (hBw.setCell (p := ⟨w.heap.size, k, none⟩) (Nat.le_refl _) (.int .u32 (s % 4294967296 : Nat)))
        clear hx hr hset
        go_wp2_with fail
        exact ⟨⟨k + 1, s / 4294967296, R ++ [s % 4294967296], by go_num, by go_num, by omega, HN.out, HSET.out _, HB2.out⟩, by simp [intOf]; omega⟩
    · obtain rfl : la = k := by omega
      have hdk : decide (la < la) = false := decide_eq_false (by omega)
      have hen := HST.out.ends HLA.out.symm (by have := HLB.out; omega)
      have fr : wr.frozen? ⟨w.heap.size, la, none⟩ = false := Joins.unfrozen_of_block HR.out la
      have fc : wr.cell? ⟨w.heap.size, la, none⟩ = some (.int .u32 0) := by
        have h := HR.out
        unfold RowR at h
        rw [Joins.cell_of_block h]
        simp only [List.getElem?_toArray, List.getElem?_map]
        rw [List.getElem?_append_right (by omega), hRl, Nat.sub_self, show la + 1 - la = 0 + 1 by omega, List.replicate_succ]
        rfl
      have hset : RowR (wr.setCell ⟨w.heap.size, la, none⟩ (.int .u32 (cc : Nat))) w.heap.size (R ++ [cc]) 0 := by
        have h := HR.out
        rw [show la + 1 - la = 0 + 1 by omega] at h
        have h := h.set cc
        rw [hRl] at h
        exact h
      have hsl := hset.sl (by simp; omega)
      have hlR : (R ++ [cc]).length = la + 1 := by rw [List.length_append, hRl]; rfl
      have hT := trim_any (R ++ [cc]) (some ⟨w.heap.size, 0, none⟩) (R ++ [cc]).length _ (by omega) hen.2 hsl (fun b o x hx => by cases hx; exact ⟨_, _, hset⟩)
      rw [hen.1, HV.out, hlR] at hT
      have HT := Lib.hid hT
      have HB2 := Lib.hid (hBw.setCell (p := ⟨w.heap.size, la, none⟩) (Nat.le_refl _) (.int .u32 (cc : Nat)))
      clear hset hsl hT hen
      go_wp2_with fail
      refine HT.out.mono ?_
      rintro e w' ⟨⟨v, rfl, hv⟩, rfl⟩
      have HAV := Lib.hid hv
      clear hv
      go_wp2_with fail
      go_ret
      exact ⟨⟨v, rfl, HAV.out⟩, HB2.out⟩
set_option maxHeartbeats 2000000 in
theorem add_short (n m : Nat) (a b : Option Addr) (ca cb : Nat) (w : World) (hn : n < bigTop) (hm : m < bigTop)
    (hsa : Sl w 1 4 a (wordsN n).length ca ((wordsN n).map u32V)) (hsb : Sl w 1 4 b (wordsN m).length cb ((wordsN m).map u32V)) (hle : (wordsN n).length < (wordsN m).length) :
    Calls Tryd.prog 34 #[.slice a (wordsN n).length ca, .slice b (wordsN m).length cb] w fun e w' => (∃ v, e = .returned v ∧ AbsOf w' v (n + m)) ∧ Below w.heap.size w w' := by
  have hlta := wordsN_lt n
  have hltb := wordsN_lt m
  have hva := wordsN_val n
  have hvb := wordsN_val m
  have hla := wordsN_len hn
  have hlb := wordsN_len hm
  obtain ⟨A, hA⟩ : ∃ A, A = wordsN n := ⟨_, rfl⟩
  obtain ⟨B, hB⟩ : ∃ B, B = wordsN m := ⟨_, rfl⟩
  rw [← hA] at hsa hlta hva hla hle ⊢
  rw [← hB] at hsb hltb hvb hlb hle ⊢
  obtain ⟨la, hLA⟩ : ∃ la, la = A.length := ⟨_, rfl⟩
  obtain ⟨lb, hLB⟩ : ∃ lb, lb = B.length := ⟨_, rfl⟩
  rw [← hLA] at hsa hla hle ⊢
  rw [← hLB] at hsb hlb hle ⊢
  have HSA := Lib.hid hsa
  have HSB := Lib.hid hsb
  have HLA := Lib.hid hLA
  have HLB := Lib.hid hLB
  have HTA := Lib.hid hlta
  have HTB := Lib.hid hltb
  have HV : Aside (valW B + valW A = n + m) := by show _ = _; omega
  have hmk := make_words (lb + 1) (by omega) w
  rw [show ((lb + 1 : Nat) : Int) = (lb : Int) + 1 from rfl] at hmk
  clear hsa hsb hA hB hLA hLB hlta hltb hva hvb
  have hd : decide (la < lb) = true := by simp; omega
  go_enter Tryd.func34, Tryd.ntmps34
  go_wp2_with fail
  obtain ⟨W, hW⟩ : ∃ W, W = w.alloc (.cells (zerosW (lb + 1)) 66) := ⟨_, rfl⟩
  have hR0 : RowR W w.heap.size [] (lb + 1) := by rw [hW]; exact blk_last w _ rfl
  have hB0 : Below w.heap.size w W := by rw [hW]; exact (Below.refl _ _).alloc (Nat.le_refl _) _
  rw [← hW]
  clear hW hmk
  go_loopw [6, 7] (fun c i wr => ∃ (k cc : Nat) (R : List Nat), i = .int .i64 k ∧ c = .int .u64 cc ∧ k ≤ lb ∧ Aside (AddSt B A R k cc) ∧ Aside (RowR wr w.heap.size R (lb + 1 - k)) ∧ Below w.heap.size w wr) (fun _ i _ => lb - (intOf i).toNat)
  case atStart => exact ⟨0, 0, [], rfl, rfl, Nat.zero_le _, AddSt.start _ _, hR0, hB0⟩
  case round =>
    clear hR0 hB0
    obtain ⟨k, cc, R, rfl, rfl, hk, HST, HR, hBw⟩ := hrel
    have hcc := HST.out.carry
    have hRl := HST.out.len
    have hgl : w.heap.size < wr.heap.size := lt_of_block HR.out
    by_cases hlt : k < lb
    · have hdk : decide (k < lb) = true := decide_eq_true (by omega)
      obtain ⟨x, hx⟩ : ∃ x, B[k]? = some x := ⟨B[k]'(by have := HLB.out; omega), by simp⟩
      have hx1 : x < 4294967296 := HTB.out x (List.mem_of_getElem? hx)
      obtain ⟨p, o, rfl, hr⟩ := (HSB.out.below (by omega) hBw).row (by omega)
      have hc0 : wr.cell? ⟨p, o + k, none⟩ = some (.int .u32 x) := hr k _ (by rw [List.getElem?_map, hx]; rfl)
      have fr : wr.frozen? ⟨w.heap.size, k, none⟩ = false := Joins.unfrozen_of_block HR.out k
      have fc : wr.cell? ⟨w.heap.size, k, none⟩ = some (.int .u32 0) := by
        have h := HR.out
        unfold RowR at h
        rw [Joins.cell_of_block h]
        simp only [List.getElem?_toArray, List.getElem?_map]
        rw [List.getElem?_append_right (by omega), hRl, Nat.sub_self, show lb + 1 - k = (lb - k) + 1 by omega, List.replicate_succ]
        rfl
      have hset : ∀ y, Aside (RowR (wr.setCell ⟨w.heap.size, k, none⟩ (.int .u32 (y : Nat))) w.heap.size (R ++ [y]) (lb + 1 - (k + 1))) := fun y => by
        have h := HR.out
        rw [show lb + 1 - k = (lb + 1 - (k + 1)) + 1 by omega] at h
        have h := h.set y
        rw [hRl] at h
        exact h
      have HSET := Lib.hid hset
      by_cases hkb : k < la
      · have hdb : decide (k < la) = true := decide_eq_true (by omega)
        obtain ⟨y, hy⟩ : ∃ y, A[k]? = some y := ⟨A[k]'(by have := HLA.out; omega), by simp⟩
        have hy1 : y < 4294967296 := HTA.out y (List.mem_of_getElem? hy)
        obtain ⟨p', o', rfl, hr'⟩ := (HSA.out.below (by omega) hBw).row (by omega)
        have hc1 : wr.cell? ⟨p', o' + k, none⟩ = some (.int .u32 y) := hr' k _ (by rw [List.getElem?_map, hy]; rfl)
        have HN := Lib.hid (HST.out.next hx hx1 (.inl ⟨hy, hy1⟩))
        obtain ⟨s, hs⟩ : ∃ s, s = cc + x + y := ⟨_, rfl⟩
        have hsI : ((cc : Int) + x + y) = (s : Int) := by omega
        have hsl : s < 8589934592 := by omega
        rw [← hs] at HN
        clear hs
        have HB2 := Lib.hid (hBw.setCell (p := ⟨w.heap.size, k, none⟩) (Nat.le_refl _) (.int .u32 (s % 4294967296 : Nat)))
        clear hx hy hr hr' hset
        go_wp2_with fail
        exact ⟨⟨k + 1, s / 4294967296, R ++ [s % 4294967296], by go_num, by go_num, by omega, HN.out, HSET.out _, HB2.out⟩, by simp [intOf]; omega⟩
      · have hdb : decide (k < la) = false := decide_eq_false (by omega)
        have HN := Lib.hid (HST.out.next hx hx1 (y := 0) (.inr ⟨by have := HLA.out; omega, rfl⟩))
        rw [Nat.add_zero] at HN
        obtain ⟨s, hs⟩ : ∃ s, s = cc + x := ⟨_, rfl⟩
        have hsI : ((cc : Int) + x) = (s : Int) := by omega
        have hsl : s < 8589934592 := by omega
        rw [← hs] at HN
        clear hs
        have HB2 := Lib.hid (hBw.setCell (p := ⟨w.heap.size, k, none⟩) (Nat.le_refl _) (.int .u32 (s % 4294967296 : Nat)))
        clear hx hr hset
        go_wp2_with fail
        exact ⟨⟨k + 1, s / 4294967296, R ++ [s % 4294967296], by go_num, by go_num, by omega, HN.out, HSET.out _, HB2.out⟩, by simp [intOf]; omega⟩
    · obtain rfl : lb = k := by omega
      have hdk : decide (lb < lb) = false := decide_eq_false (by omega)
      have hen := HST.out.ends HLB.out.symm (by have := HLA.out; omega)
      have fr : wr.frozen? ⟨w.heap.size, lb, none⟩ = false := Joins.unfrozen_of_block HR.out lb
      have fc : wr.cell? ⟨w.heap.size, lb, none⟩ = some (.int .u32 0) := by
        have h := HR.out
        unfold RowR at h
        rw [Joins.cell_of_block h]
        simp only [List.getElem?_toArray, List.getElem?_map]
        rw [List.getElem?_append_right (by omega), hRl, Nat.sub_self, show lb + 1 - lb = 0 + 1 by omega, List.replicate_succ]
        rfl
      have hset : RowR (wr.setCell ⟨w.heap.size, lb, none⟩ (.int .u32 (cc : Nat))) w.heap.size (R ++ [cc]) 0 := by
        have h := HR.out
        rw [show lb + 1 - lb = 0 + 1 by omega] at h
        have h := h.set cc
        rw [hRl] at h
        exact h
      have hsl := hset.sl (by simp; omega)
      have hlR : (R ++ [cc]).length = lb + 1 := by rw [List.length_append, hRl]; rfl
      have hT := trim_any (R ++ [cc]) (some ⟨w.heap.size, 0, none⟩) (R ++ [cc]).length _ (by omega) hen.2 hsl (fun b o x hx => by cases hx; exact ⟨_, _, hset⟩)
      rw [hen.1, HV.out, hlR] at hT
      have HT := Lib.hid hT
      have HB2 := Lib.hid (hBw.setCell (p := ⟨w.heap.size, lb, none⟩) (Nat.le_refl _) (.int .u32 (cc : Nat)))
      clear hset hsl hT hen
      go_wp2_with fail
      refine HT.out.mono ?_
      rintro e w' ⟨⟨v, rfl, hv⟩, rfl⟩
      have HAV := Lib.hid hv
      clear hv
      go_wp2_with fail
      go_ret
      exact ⟨⟨v, rfl, HAV.out⟩, HB2.out⟩
theorem add_any (n m : Nat) (u v : Value) (w : World) (hnm : n + m < bigTop) (hu : AbsOf w u n) (hv : AbsOf w v m) :
    Calls Tryd.prog 34 #[u, v] w fun e w' => (∃ v, e = .returned v ∧ AbsOf w' v (n + m)) ∧ Below w.heap.size w w' := by
  obtain ⟨a, ca, rfl, hsa, _⟩ := hu
  obtain ⟨b, cb, rfl, hsb, _⟩ := hv
  by_cases h : (wordsN m).length ≤ (wordsN n).length
  · exact add_long n m a b ca cb w (by omega) (by omega) hsa hsb h
  · exact add_short n m a b ca cb w (by omega) (by omega) hsa hsb (by omega)
end Go.Proofs.YtjbkfkgdpbjliaaDoor
