/-
  quad.Cells; What From makes has just the cells: plain; The document's plain steps are the plane's steps: plain; The law's made, of a few cells near 0; leap.Leap and leap.Steps where a rule is not good, or a number out of its bounds.
-/
import Derived.Test.YtabhpbkkjijfjaaZLeapSteps46
import Derived.Test.YtabhpbkkjijfjaaZLeapStepsTidies
import Derived.Test.YtabhpbkkjijfjaaZLeapSteps33
import Derived.Test.YtabhpbkkjijfjaaZLeapSteps40
import Derived.Test.YtabhpbkkjijfjaaZLeapSteps43
import Derived.Test.YtabhpbkkjijfjaaZLeapSteps28
import Derived.Test.YtabhpbkkjijfjaaZLeapSteps42
import Derived.Test.YtabhpbkkjijfjaaZLeapSteps38
import Derived.Test.YtabhpbkkjijfjaaZLeapStepsFoot
namespace Go.Proofs.Ytabhpbkkjijfjaa
set_option maxRecDepth 100000
open Go.RowKit

set_option maxHeartbeats 4000000 in
set_option maxRecDepth 100000 in
theorem qcells_any (b t : Nat) (S : ArS) (F : Nat → Prop) (n : Nat) (T : Tree) (id : Int) (w : World) (h : IsAr b S w F) (ht : t < 64) (hd : Den S.L t (n + 1) T id) (hc : cnt T ≤ 4096) (hn : n + 1 ≤ 43) :
    Calls Try.prog 9 #[.pointer (some ⟨b, 0, none⟩), .int .i64 t, .int .i64 id] w (Tidied w (cellsT (n + 1) T (-((2 ^ n : Nat) : Int)) (-((2 ^ n : Nat) : Int)))) := by
  have HW := Lib.hid (walk_any b t w)
  have HI := Lib.hid h
  have HFL := Lib.hid h.lt
  have HD := Lib.hid hd
  have HLA := Lib.hid (hd.levelA h.ok ht)
  obtain ⟨H, hH⟩ : ∃ H : Nat, H = 2 ^ n := ⟨_, rfl⟩
  have hHb : H ≤ 8796093022208 := by
    have : 2 ^ n ≤ 2 ^ 43 := Nat.pow_le_pow_right (by omega) (by omega)
    omega
  have hp2 : (2 : Int) ^ (n + 1) = 2 * (H : Int) := by
    rw [Int.pow_succ, show (2 : Int) ^ n = (H : Int) by rw [hH, Int.natCast_pow]; rfl]; omega
  have HP2 := Lib.hid hp2
  obtain ⟨lv, hlv⟩ : ∃ lv : Nat, lv = n + 1 := ⟨_, rfl⟩
  have HHF := Lib.hid (show ∀ W : World, Calls Try.prog 22 #[.int .i64 (lv : Int)] W fun e w' => e = .returned (.int .i64 (H : Int)) ∧ w' = W from fun W => by
    have hf := half_any lv (by omega) (by omega) W
    rw [hlv] at hf
    rw [hlv, hH]; exact hf)
  have HCN := Lib.hid (show (cellsT (n + 1) T (-(H : Int)) (-(H : Int))).length = cnt T from cellsT_len _ _ hd.full)
  have HC := Lib.hid hc
  have hlI : ((n + 1 : Nat) : Int) = (lv : Int) := by omega
  have hlz : ((lv : Int) == 0) = false := by simp; omega
  have hlz2 : (lv == 0) = false := by simp; omega
  have hn41 : n ≤ 42 := by omega
  have HLI := Lib.hid hlI
  have hH42 : H ≤ 4398046511104 := by
    have : 2 ^ n ≤ 2 ^ 42 := Nat.pow_le_pow_right (by omega) (by omega)
    omega
  rw [← hH]
  rw [hlI] at HLA
  clear h hd hc hH hp2 hlv hlI
  go_enter Try.func9, Try.ntmps9
  go_wp2_with fail
  with_reducible refine HW.out.mono ?_
  rintro e w1 ⟨rfl, hb1, hm1, hz1, hh1⟩
  have HLV := Lib.hid (hlevel_any (w.heap.size + 1) b t 0 54 (some (.map (some w.heap.size))) S F id w1 (HI.out.below hb1) hh1 (fun e => by have := HFL.out _ e; omega))
  rw [if_pos rfl, if_pos rfl, HLA.out] at HLV
  have HB1 := Lib.hid hb1
  have HM1 := Lib.hid hm1
  have HZ1 := Lib.hid hz1
  clear hb1 hm1 hh1 hz1
  go_wp2_with fail
  with_reducible refine HLV.out.mono ?_
  rintro e w2 ⟨rfl, hh2, hk2⟩
  have c2 := hh2.c2
  obtain ⟨X, hX⟩ : ∃ X, X = w2.alloc (.cells #[.slice none 0 0] 24 (0, 0)) := ⟨_, rfl⟩
  have hbX : Below w2.heap.size w2 X := by rw [hX]; exact (Below.refl _ _).alloc (Nat.le_refl _) _
  have hout : X.heap[w2.heap.size]? = some (.cells #[.slice none 0 0] 24 (0, 0)) := by rw [hX]; exact blk_last w2 _ rfl
  have hz1 := HZ1.out
  have hsz := hk2.size
  have hm2 : w2.heap[w.heap.size]? = some (.map #[] 0) := (hk2.block _ (by omega) (by omega)).trans HM1.out
  have hm0 : MapOf intV I64 w2 w.heap.size 0 (fun _ => none) := ⟨#[], 0, hm2, by simp, by simp [MapKept.Stamped], fun e he => by simp at he, fun a v hv => by cases hv⟩
  have hi2 : IsAr b S w2 F := (HI.out.below HB1.out).keep hk2 (fun i hi e => by have := HFL.out i hi; omega)
  have hst : WSt b t S F (w.heap.size + 1) w.heap.size 0 (fun _ => none) X :=
    ⟨hi2.below hbX, hh2.keep (hbX.block _ hh2.lt), hm0.keep (hbX.block _ hm0.lt), ⟨fun i v hv => by cases hv⟩, ⟨fun e => by have := HFL.out _ e; omega, fun e => by have := HFL.out _ e; omega⟩, by omega⟩
  have hes : ESt b t S F (w.heap.size + 1) w.heap.size w2.heap.size 0 (fun _ => none) [] (.slice none 0 0) X :=
    ⟨hst, ⟨hout, Row.nil _ _ _⟩, ⟨by omega, by omega, fun e => by have := HFL.out _ e; omega⟩, fun q hq => by cases hq⟩
  have hea := each_any (n + 1) b t S F _ _ _ _ _ _ _ T id (-(H : Int)) (-(H : Int)) X hes ht HD.out (by have := HC.out; simp only [List.length_nil]; omega) (by omega) (by rw [HP2.out]; omega) (by omega) (by rw [HP2.out]; omega) (by omega)
  rw [HLI.out] at hea
  have HEA := Lib.hid hea
  have HX := Lib.hid hX
  have HBX := Lib.hid (show Below w.heap.size w X from HB1.out.trans ((hk2.toBelow (B := w.heap.size) (fun i e => by omega) HB1.out.size).trans (hbX.mono (by omega))))
  have HS2 := Lib.hid (show w.heap.size + 2 ≤ w2.heap.size by omega)
  clear hh2 hk2 hX hbX hout hz1 hsz hm2 hm0 hi2 hst hes hea
  go_upto_region 8 with fail
  rw [← HX.out]
  go_wp2_with fail
  with_reducible refine (HHF.out _).mono ?_
  rintro e w3 ⟨rfl, rfl⟩
  go_wp2_with fail
  with_reducible refine (HHF.out _).mono ?_
  rintro e w4 ⟨rfl, rfl⟩
  go_wp2_with fail
  with_reducible refine HEA.out.mono ?_
  rintro e w5 ⟨rfl, nn', f', v', hr⟩
  rw [List.nil_append] at hr
  have k2 := hr.st.st.hand.c2
  obtain ⟨va, vc, hvf, _, _, _⟩ := hr.st.out.row.form
  have k9 := Joins.cell_of_block hr.st.out.own 0
  rw [hvf] at k9
  simp at k9
  have hlen : (cellsT (n + 1) T (-(H : Int)) (-(H : Int))).length ≤ 4096 := by rw [HCN.out]; exact HC.out
  have hsl := hr.st.out.row.sl (bytes := 16) (by omega)
  rw [hvf] at hsl
  obtain ⟨a', c', e', hs⟩ := hsl
  simp only [Value.slice.injEq, true_and] at e'
  obtain ⟨rfl, rfl⟩ := e'
  have HTD := Lib.hid (tidy_any (cellsT (n + 1) T (-(H : Int)) (-(H : Int))) va vc w5 hs)
  have HB5 := Lib.hid (show Below w.heap.size w w5 from HBX.out.trans (hr.keep.toBelow (B := w.heap.size) (fun i e => by
    have := HS2.out
    rcases e with e | e | e | e
    · omega
    · omega
    · omega
    · cases e) HBX.out.size))
  obtain ⟨cl, hcl⟩ : ∃ cl, cl = cellsT (n + 1) T (-(H : Int)) (-(H : Int)) := ⟨_, rfl⟩
  have HCL := Lib.hid hcl
  rw [← hcl] at HTD k9
  unfold Tidied at HTD
  obtain ⟨er, her⟩ : ∃ er, er = (tidyF cl).2 := ⟨_, rfl⟩
  have HER := Lib.hid her
  rw [← her] at HTD
  clear hr hvf hlen hs hcl her c2
  go_wp2_with fail
  with_reducible refine HTD.out.mono ?_
  rintro e w6 ⟨v6, rfl, h6, ht6⟩
  have H6 := Lib.hid h6
  have HT6 := Lib.hid ht6
  clear h6 ht6
  go_wp2_with fail
  go_ret2
  refine ⟨v6, by rw [← HCL.out, ← HER.out]; rfl, HB5.out.trans (H6.out.mono HB5.out.size), by rw [← HCL.out]; exact HT6.out.mono HB5.out.size⟩
end Go.Proofs.Ytabhpbkkjijfjaa
namespace Go.Proofs.Ytabhpbkkjijfjaa
set_option maxRecDepth 100000

theorem cnt_build {n : Nat} {x y : Int} {l : CellL} (h : ∀ c ∈ l, x ≤ c.1 ∧ c.1 < x + 2 ^ n ∧ y ≤ c.2 ∧ c.2 < y + 2 ^ n) : cnt (buildT n x y l) ≤ l.length := by
  induction n generalizing x y l with
  | zero =>
    cases l with
    | nil => exact Nat.le_refl _
    | cons c l => show 1 ≤ (c :: l).length; simp
  | succ n ih =>
    have e : (2 : Int) ^ (n + 1) = 2 ^ n + 2 ^ n := by rw [Int.pow_succ]; omega
    rw [e] at h
    unfold buildT
    split
    · rw [show cnt (emptyT (n + 1)) = 0 from (cnt_zero (full_empty (n + 1))).2 rfl]; exact Nat.zero_le _
    · have q : ∀ k (c : Int × Int), c ∈ partOf (x + 2 ^ n) (y + 2 ^ n) k l → c ∈ l ∧ quadOf (x + 2 ^ n) (y + 2 ^ n) c = k := fun k c hc => by
        unfold partOf at hc
        rw [List.mem_filter, decide_eq_true_eq] at hc
        exact hc
      have i0 := ih (x := x) (y := y) (l := partOf (x + 2 ^ n) (y + 2 ^ n) 0 l) (fun c hc => by
        obtain ⟨h1, h2⟩ := q 0 c hc
        have := h c h1
        unfold quadOf at h2
        split at h2 <;> split at h2 <;> omega)
      have i1 := ih (x := x + 2 ^ n) (y := y) (l := partOf (x + 2 ^ n) (y + 2 ^ n) 1 l) (fun c hc => by
        obtain ⟨h1, h2⟩ := q 1 c hc
        have := h c h1
        unfold quadOf at h2
        split at h2 <;> split at h2 <;> omega)
      have i2 := ih (x := x) (y := y + 2 ^ n) (l := partOf (x + 2 ^ n) (y + 2 ^ n) 2 l) (fun c hc => by
        obtain ⟨h1, h2⟩ := q 2 c hc
        have := h c h1
        unfold quadOf at h2
        split at h2 <;> split at h2 <;> omega)
      have i3 := ih (x := x + 2 ^ n) (y := y + 2 ^ n) (l := partOf (x + 2 ^ n) (y + 2 ^ n) 3 l) (fun c hc => by
        obtain ⟨h1, h2⟩ := q 3 c hc
        have := h c h1
        unfold quadOf at h2
        split at h2 <;> split at h2 <;> omega)
      have hs := parts_sum (x + 2 ^ n) (y + 2 ^ n) l
      show cnt _ + cnt _ + cnt _ + cnt _ ≤ _
      omega
/-- A square that reaches all cells, from its corner. -/
theorem within_box {lev : Nat} {s : CellL} (h1 : 1 ≤ lev) (h : Within ((2 ^ (lev - 1) : Nat) : Int) s) : ∀ c ∈ s, -((2 ^ (lev - 1) : Nat) : Int) ≤ c.1 ∧ c.1 < -((2 ^ (lev - 1) : Nat) : Int) + 2 ^ lev ∧ -((2 ^ (lev - 1) : Nat) : Int) ≤ c.2 ∧ c.2 < -((2 ^ (lev - 1) : Nat) : Int) + 2 ^ lev := by
  intro c hc
  have hw := h c hc
  have e : (2 : Int) ^ lev = 2 * ((2 ^ (lev - 1) : Nat) : Int) := by
    obtain ⟨k, rfl⟩ : ∃ k, lev = k + 1 := ⟨lev - 1, by omega⟩
    rw [Int.pow_succ, Int.natCast_pow]
    show 2 ^ k * 2 = 2 * (2 : Int) ^ k
    omega
  rw [e]
  omega
theorem tidyF_first (zs : CellL) (h : (tidyF zs).2 = 0) : (tidyF zs).1 = sortF zs := by
  unfold tidyF at h ⊢
  split at h
  · simp at h
  · split at h
    · simp at h
    · next h1 h2 => rw [if_neg h1, if_neg h2]
theorem tidyF_nofar {zs : CellL} (h : (tidyF zs).2 = 0) : ¬ zs.any farC = true := by
  unfold tidyF at h
  split at h
  · simp at h
  · split at h
    · simp at h
    · assumption
/-- Cells tells just the cells that From was told. -/
theorem tidy_build {zs : CellL} {lev : Nat} (hok : (tidyF zs).2 = 0) (hl : Least (tidyF zs).1 lev) : tidyF (cellsT lev (buildT lev (-((2 ^ (lev - 1) : Nat) : Int)) (-((2 ^ (lev - 1) : Nat) : Int)) (tidyF zs).1) (-((2 ^ (lev - 1) : Nat) : Int)) (-((2 ^ (lev - 1) : Nat) : Int))) = ((tidyF zs).1, 0) := by
  have hb := within_box (by have := hl.lo; omega) hl.all
  have hc := cnt_build hb
  have hlen := tidyF_length zs
  have hs := tidyF_first zs hok
  obtain ⟨s, hsE⟩ : ∃ s, s = (tidyF zs).1 := ⟨_, rfl⟩
  rw [← hsE] at hb hc hlen hs ⊢
  obtain ⟨C, hC⟩ : ∃ C, C = cellsT lev (buildT lev (-((2 ^ (lev - 1) : Nat) : Int)) (-((2 ^ (lev - 1) : Nat) : Int)) s) (-((2 ^ (lev - 1) : Nat) : Int)) (-((2 ^ (lev - 1) : Nat) : Int)) := ⟨_, rfl⟩
  have hmem : ∀ z, z ∈ C ↔ z ∈ s := fun z => by rw [hC]; exact mem_build hb
  have hCl : C.length ≤ 4096 := by
    rw [hC, cellsT_len _ _ (full_build _ _ _ _)]; omega
  rw [← hC]
  unfold tidyF
  rw [if_neg (by omega), if_neg (fun e => by
    obtain ⟨z, hz, hf⟩ := List.any_eq_true.1 e
    have h1 := (hmem z).1 hz
    rw [hs, mem_sortF] at h1
    exact tidyF_nofar hok (List.any_eq_true.2 ⟨z, h1, hf⟩))]
  congr 1
  exact sortF_eq (by rw [hs]; exact rising_sortF zs) fun z => (hmem z).symm
section
open Go.RowKit
def max5 (n a b c d : Int) : Int := max (max (max (max n a) b) c) d
def reachF (zs : CellL) : Int := zs.foldl (fun n c => max5 n c.1 c.2 (-c.1 - 1) (-c.2 - 1)) 0
theorem reachF_snoc (zs : CellL) (c : Int × Int) : reachF (zs ++ [c]) = max5 (reachF zs) c.1 c.2 (-c.1 - 1) (-c.2 - 1) := by
  unfold reachF
  rw [List.foldl_append]; rfl
theorem reach_lt : ∀ {zs : CellL} {k : Int}, 0 < k → (reachF zs < k ↔ Within k zs) := by
  intro zs
  have key : ∀ (l : CellL) (n k : Int), l.foldl (fun n c => max5 n c.1 c.2 (-c.1 - 1) (-c.2 - 1)) n < k ↔ n < k ∧ Within k l := by
    intro l
    induction l with
    | nil => intro n k; simp [Within]
    | cons c l ih =>
      intro n k
      rw [List.foldl_cons, ih]
      unfold max5 Within
      simp only [List.mem_cons, forall_eq_or_imp]
      constructor
      · rintro ⟨h1, h2⟩
        exact ⟨by omega, ⟨by omega, by omega, by omega, by omega⟩, h2⟩
      · rintro ⟨h1, ⟨h2, h3, h4, h5⟩, h6⟩
        exact ⟨by omega, h6⟩
  intro k hk
  unfold reachF
  rw [key]
  exact ⟨fun h => h.2, fun h => ⟨hk, h⟩⟩
theorem reach_pos (zs : CellL) : 0 ≤ reachF zs := by
  have h := (reach_lt (zs := zs) (k := 1) (by omega))
  have key : ∀ (l : CellL) (n : Int), n ≤ l.foldl (fun n c => max5 n c.1 c.2 (-c.1 - 1) (-c.2 - 1)) n := by
    intro l
    induction l with
    | nil => intro n; exact Int.le_refl _
    | cons c l ih =>
      intro n
      rw [List.foldl_cons]
      refine Int.le_trans ?_ (ih _)
      unfold max5; omega
  exact key zs 0
theorem if_max (x y : Int) : (if y > x then y else x) = max x y := by
  split <;> omega
theorem run_max5 {P : Program} (ts : Array TypeId) (t : TypeId) (n a b c d : Int) (w : World) : (Builtin.max_ ts t #[.int .i64 n, .int .i64 a, .int .i64 b, .int .i64 c, .int .i64 d]).run P w = .ok (.int .i64 (max5 n a b c d)) w := by
  simp only [max5, ← if_max]
  simp [Builtin.max_, Builtin.max2]
end
end Go.Proofs.Ytabhpbkkjijfjaa
namespace Go.Proofs.Ytabhpbkkjijfjaa
set_option maxRecDepth 100000

/-- The plane in which just these cells live. -/
def planeL (s : CellL) : PlaneF := fun x y => decide ((x, y) ∈ s)
theorem planeL_iff {s : CellL} {x y : Int} : planeL s x y = true ↔ (x, y) ∈ s := decide_eq_true_iff
theorem good_dead {b l : Int} (h : goodF b l = true) : livesF b l false 0 = false := by
  unfold goodF at h
  simp only [Bool.and_eq_true, beq_iff_eq] at h
  unfold livesF
  simp
  omega
theorem tidyF_again {zs : CellL} (hok : (tidyF zs).2 = 0) : tidyF (tidyF zs).1 = ((tidyF zs).1, 0) := by
  have hs := tidyF_first zs hok
  have hl := tidyF_length zs
  rw [tidyF.eq_1 (tidyF zs).1, if_neg (by omega), if_neg (fun e => by
    obtain ⟨z, hz, hf⟩ := List.any_eq_true.1 e
    rw [hs, mem_sortF] at hz
    exact tidyF_nofar hok (List.any_eq_true.2 ⟨z, hz, hf⟩)), sortF_rising (tidyF_rising zs)]
theorem runF_tidy {b l : Int} {zs : CellL} : ∀ {n : Nat}, (runF b l zs n).2 = 0 → tidyF (runF b l zs n).1 = ((runF b l zs n).1, 0)
  | 0, h => tidyF_again h
  | n + 1, h => by
    rw [runF] at h ⊢
    by_cases h0 : (runF b l zs n).2 = 0
    · rw [if_pos h0] at h ⊢
      unfold nextF at h ⊢
      by_cases hg : goodF b l = false
      · rw [if_pos hg] at h; cases h
      · rw [if_neg hg] at h ⊢
        by_cases ht : (tidyF (runF b l zs n).1).2 ≠ 0
        · rw [if_pos ht] at h; exact absurd h ht
        · rw [if_neg ht] at h ⊢
          exact tidyF_again h
    · rw [if_neg h0] at h; exact absurd h h0
theorem len_if {s : CellL} {c : Int × Int} {l : CellL} : (((c :: l).filter fun c => decide (c ∈ s)).length : Int) = b2i (decide (c ∈ s)) + ((l.filter fun c => decide (c ∈ s)).length : Int) := by
  rw [List.filter_cons]
  by_cases h : c ∈ s
  · simp [h, b2i]; omega
  · simp [h, b2i]
theorem near_plane (s : CellL) (x y : Int) : nearP (planeL s) x y = (nearF s (x, y) : Nat) := by
  unfold nearF eightF nearP planeL
  rw [len_if, len_if, len_if, len_if, len_if, len_if, len_if, len_if]
  simp only [List.filter_nil, List.length_nil]
  omega
theorem mem_nine (c d : Int × Int) : d ∈ nineC c ↔ c.1 - 1 ≤ d.1 ∧ d.1 ≤ c.1 + 1 ∧ c.2 - 1 ≤ d.2 ∧ d.2 ≤ c.2 + 1 := by
  rw [nineC_eq]
  obtain ⟨x, y⟩ := c
  obtain ⟨u, v⟩ := d
  simp only [nineF, List.mem_cons, List.not_mem_nil, or_false, Prod.mk.injEq]
  omega
/-- The next plane. -/
theorem next_plane {b l : Int} (hb : livesF b l false 0 = false) (s : CellL) (x y : Int) : stepP b l (planeL s) x y = true ↔ (x, y) ∈ nextC b l s := by
  rw [mem_nextC]
  show livesF b l (planeL s x y) (nearP (planeL s) x y) = true ↔ _
  rw [near_plane]
  constructor
  · intro h
    refine ⟨?_, h⟩
    by_cases hin : (x, y) ∈ s
    · exact List.mem_flatMap.2 ⟨_, hin, (mem_nine _ _).2 (by simp only; omega)⟩
    · by_cases h0 : nearF s (x, y) = 0
      · rw [h0] at h
        unfold planeL at h
        rw [decide_eq_false hin] at h
        rw [show ((0 : Nat) : Int) = 0 from rfl, hb] at h
        cases h
      · unfold nearF at h0
        obtain ⟨c, hc⟩ := List.exists_mem_of_length_pos (Nat.pos_of_ne_zero h0)
        rw [List.mem_filter] at hc
        have h8 := (mem_eight _ _).1 hc.1
        simp only at h8
        exact List.mem_flatMap.2 ⟨c, of_decide_eq_true hc.2, (mem_nine _ _).2 (by simp only; omega)⟩
  · exact fun h => h.2
theorem stepP_congr {b l : Int} {f g : PlaneF} (h : f = g) : stepP b l f = stepP b l g := by rw [h]
/-- So many steps. -/
theorem run_plane {b l : Int} {zs : CellL} (hg : goodF b l = true) : ∀ {n : Nat}, (runF b l zs n).2 = 0 → iterP b l n (planeL (tidyF zs).1) = planeL (runF b l zs n).1
  | 0, _ => rfl
  | n + 1, h => by
    have h' := h
    rw [runF] at h' ⊢
    by_cases h0 : (runF b l zs n).2 = 0
    · have ih := run_plane hg h0
      rw [if_pos h0] at h' ⊢
      show stepP b l (iterP b l n _) = _
      rw [ih]
      unfold nextF at h' ⊢
      rw [if_neg (by rw [hg]; decide)] at h' ⊢
      rw [runF_tidy h0] at h' ⊢
      rw [if_neg (by simp)] at h' ⊢
      funext x y
      have hn := next_plane (good_dead hg) (runF b l zs n).1 x y
      rw [tidyF_first _ h']
      unfold planeL at hn ⊢
      by_cases hm : (x, y) ∈ nextC b l (runF b l zs n).1
      · rw [hn.2 hm]; exact (decide_eq_true ((mem_sortF _ _).2 hm)).symm
      · rw [decide_eq_false fun e => hm ((mem_sortF _ _).1 e)]
        cases hs : stepP b l (fun x y => decide ((x, y) ∈ (runF b l zs n).1)) x y with
        | false => rfl
        | true => exact absurd (hn.1 hs) hm
    · rw [if_neg h0] at h'; exact absurd h' h0
/-! ### Roots of lists -/
theorem shows_build {n : Nat} {s : CellL} (hb : ∀ c ∈ s, -(2 ^ (n - 1)) ≤ c.1 ∧ c.1 < -(2 ^ (n - 1)) + 2 ^ n ∧ -(2 ^ (n - 1)) ≤ c.2 ∧ c.2 < -(2 ^ (n - 1)) + 2 ^ n) : Shows n (buildT n (-(2 ^ (n - 1))) (-(2 ^ (n - 1))) s) (planeL s) :=
  ⟨full_build _ _ _ _, fun x y => by rw [planeL_iff, mem_build hb]⟩
/-- A root that shows a list has its cells. -/
theorem Shows.cells {n : Nat} {T : Tree} {s : CellL} (h : Shows n T (planeL s)) (hs : tidyF s = (s, 0)) : cnt T ≤ s.length ∧ tidyF (cellsT n T (-(2 ^ (n - 1))) (-(2 ^ (n - 1)))) = (s, 0) := by
  have hb : ∀ c ∈ s, -(2 ^ (n - 1)) ≤ c.1 ∧ c.1 < -(2 ^ (n - 1)) + 2 ^ n ∧ -(2 ^ (n - 1)) ≤ c.2 ∧ c.2 < -(2 ^ (n - 1)) + 2 ^ n := fun c hc => h.in_ (x := c.1) (y := c.2) (planeL_iff.2 hc)
  have hT : T = buildT n (-(2 ^ (n - 1))) (-(2 ^ (n - 1))) s := h.at_.trans (shows_build hb).at_.symm
  have hc : cnt T ≤ s.length := by rw [hT]; exact cnt_build hb
  refine ⟨hc, ?_⟩
  have hlen : s.length ≤ 4096 := by have := tidyF_length s; rwa [hs] at this
  have hok : (tidyF s).2 = 0 := by rw [hs]
  have hmem : ∀ z, z ∈ cellsT n T (-(2 ^ (n - 1))) (-(2 ^ (n - 1))) ↔ z ∈ s := fun z => by
    have := h.ok z.1 z.2
    rw [planeL_iff] at this
    exact this.symm
  have hr : Rising s := by have := tidyF_rising s; rwa [hs] at this
  unfold tidyF
  rw [if_neg (by rw [cellsT_len _ _ h.full]; omega), if_neg (fun e => by
    obtain ⟨z, hz, hf⟩ := List.any_eq_true.1 e
    exact tidyF_nofar hok (List.any_eq_true.2 ⟨z, (hmem z).1 hz, hf⟩))]
  congr 1
  exact sortF_eq hr fun z => (hmem z).symm
end Go.Proofs.Ytabhpbkkjijfjaa
namespace Go.Proofs.Ytabhpbkkjijfjaa
set_option maxRecDepth 100000
open Go.RowKit

theorem Tight.alike {base : Nat} {w w' : World} {v : Value} {xs : List (Int × Int)} (h : Tight base w v xs) (he : ∀ g, base ≤ g → g < w.heap.size → w'.heap[g]? = w.heap[g]?) : Tight base w' v xs := by
  rcases h with h | ⟨g, cap, sp, rfl, hh, h0, h1⟩
  · exact .inl h
  · exact .inr ⟨g, cap, sp, rfl, (he g h0 hh.lt).trans hh, h0, h1⟩
theorem few_tidy {ys : CellL} (hl : ys.length ≤ 40) (hn : ∀ c ∈ ys, -20 < c.1 ∧ c.1 < 20 ∧ -20 < c.2 ∧ c.2 < 20) : (tidyF ys).2 = 0 := by
  unfold tidyF
  rw [if_neg (by omega), if_neg (fun e => by
    obtain ⟨z, hz, hf⟩ := List.any_eq_true.1 e
    have := hn z hz
    simp [farC, farF] at hf
    omega)]
theorem few_near {ys : CellL} (hl : ys.length ≤ 40) (hn : ∀ c ∈ ys, -20 < c.1 ∧ c.1 < 20 ∧ -20 < c.2 ∧ c.2 < 20) : Near 19 (planeL (tidyF ys).1) := fun x y h => by
  have hm := planeL_iff.1 h
  rw [tidyF_first _ (few_tidy hl hn), mem_sortF] at hm
  have := hn _ hm
  simp only at this
  omega
/-- What it comes to. -/
def MadeFew (U : Th → Prop) (w : World) (ys : CellL) (e : Ending) (w' : World) : Prop :=
  ∃ (b lev : Nat) (r : Int) (S : ArS) (F : Nat → Prop) (T : Tree), e = .returned (.tuple #[.pointer (some ⟨b, 0, none⟩), .int .i64 r, .int .i64 0, .bool true]) ∧ I64 r ∧ IsAr b S w' F ∧ (∀ i, F i → w.heap.size ≤ i) ∧ Below w.heap.size w w' ∧ Wf S.L ∧ NoteI S.L ∧ Alone U 3 S ∧ Den S.L 3 lev T r ∧ Shows lev T (planeL (tidyF ys).1) ∧ 2 ≤ lev ∧ lev ≤ 6
theorem madeFew_any {U : Th → Prop} (ys : CellL) (a : Option Addr) (c : Nat) (w : World) (hs : Sl w 2 16 a ys.length c (ys.flatMap encCell)) (hl : ys.length ≤ 40) (hn : ∀ c ∈ ys, -20 < c.1 ∧ c.1 < 20 ∧ -20 < c.2 ∧ c.2 < 20)
    (hU : ∀ lev T, Shows lev T (planeL (tidyF ys).1) → 2 ≤ lev → lev ≤ 6 → ∀ T', Sub T' T → U (.sq T')) :
    Calls Try.prog 5 #[.slice a ys.length c] w (MadeFew U w ys) := by
  have hok := few_tidy hl hn
  have hshow : ∀ lev, Least (tidyF ys).1 lev → Shows lev (buildT lev (-((2 ^ (lev - 1) : Nat) : Int)) (-((2 ^ (lev - 1) : Nat) : Int)) (tidyF ys).1) (planeL (tidyF ys).1) ∧ 2 ≤ lev ∧ lev ≤ 6 := fun lev h => by
    have hb := within_box (by have := h.lo; omega) h.all
    refine ⟨?_, h.lo, ?_⟩
    · rw [cast_two] at hb ⊢
      exact shows_build hb
    · refine Classical.byContradiction fun hc => h.least 6 (by omega) (by omega) fun z hz => ?_
      have hnear := few_near hl hn z.1 z.2 (planeL_iff.2 hz)
      show -((32 : Nat) : Int) ≤ z.1 ∧ z.1 < ((32 : Nat) : Int) ∧ -((32 : Nat) : Int) ≤ z.2 ∧ z.2 < ((32 : Nat) : Int)
      omega
  refine (made_ok (U := fun th => U th ∧ isSq th) ys a c w hs hok (by omega) fun lev h T' hT' => ⟨hU lev _ (hshow lev h).1 (hshow lev h).2.1 (hshow lev h).2.2 T' hT', trivial⟩).mono ?_
  rintro e w' ⟨b, lev, r, S, F, rfl, h1, h2, h3, h4, h5, h6, h7, h8, _⟩
  have hok0 := newS_ok (n := 200000) (by omega)
  refine ⟨b, lev, r, S, F, _, rfl, h2, h3, h4, h5, h7, ?_, alone_new (by omega) |>.grew (h6.wider fun _ e => e.1), h8, (hshow lev h1).1, (hshow lev h1).2.1, (hshow lev h1).2.2⟩
  exact (h6.notes (fun _ _ _ e => e.2) ⟨hok0.nil0, hok0.nil1⟩ (newS_wf _) fun i x hx => absurd hx (by rw [newS_at]; simp)).2.2
end Go.Proofs.Ytabhpbkkjijfjaa
namespace Go.Proofs.Ytabhpbkkjijfjaa
set_option maxRecDepth 100000
open Go.RowKit

set_option maxHeartbeats 1000000 in
set_option maxRecDepth 100000 in
theorem leap_rule (b t : Nat) (B Lv id j : Int) (w : World) (hB : goodF B Lv = false) :
    Calls Try.prog 16 #[.pointer (some ⟨b, 0, none⟩), .int .i64 t, .agg #[.int .i64 B, .int .i64 Lv], .int .i64 id, .int .i64 j] w fun e w' => e = .returned (.tuple #[.int .i64 0, .int .i64 4]) ∧ Below w.heap.size w w' := by
  obtain ⟨X, hX⟩ : ∃ X, X = w.alloc (.cells #[.int .i64 B, .int .i64 Lv] 23 (0, 0)) := ⟨_, rfl⟩
  have hbX : Below w.heap.size w X := by rw [hX]; exact (Below.refl _ _).alloc (Nat.le_refl _) _
  have hrx : X.heap[w.heap.size]? = some (.cells #[.int .i64 B, .int .i64 Lv] 23 (0, 0)) := by rw [hX]; exact blk_last w _ rfl
  have l1 : X.cell? ⟨w.heap.size, 0, none⟩ = some (.int .i64 B) := Joins.cell_of_block hrx 0
  have l2 : X.cell? ⟨w.heap.size, 1, none⟩ = some (.int .i64 Lv) := Joins.cell_of_block hrx 1
  have hG := good_any B Lv X
  rw [hB] at hG
  have HG := Lib.hid hG
  have HXE := Lib.hid hX
  clear hX hrx hG hB
  go_enter Try.func16, Try.ntmps16
  go_upto_region 1 with fail
  rw [← HXE.out]
  go_wp2_with fail
  with_reducible refine HG.out.mono ?_
  rintro e w1 ⟨rfl, hb1⟩
  have HB := Lib.hid (show Below w.heap.size w w1 from hbX.trans (hb1.mono hbX.size))
  clear hb1
  go_wp2_with fail
  go_ret2
  exact ⟨rfl, HB.out⟩
set_option maxHeartbeats 1000000 in
set_option maxRecDepth 100000 in
theorem leap_range (b t : Nat) (B Lv id j : Int) (w : World) (hB : goodF B Lv = true) (hj : j < 0 ∨ 30 < j) :
    Calls Try.prog 16 #[.pointer (some ⟨b, 0, none⟩), .int .i64 t, .agg #[.int .i64 B, .int .i64 Lv], .int .i64 id, .int .i64 j] w fun e w' => e = .returned (.tuple #[.int .i64 0, .int .i64 3]) ∧ Below w.heap.size w w' := by
  obtain ⟨X, hX⟩ : ∃ X, X = w.alloc (.cells #[.int .i64 B, .int .i64 Lv] 23 (0, 0)) := ⟨_, rfl⟩
  have hbX : Below w.heap.size w X := by rw [hX]; exact (Below.refl _ _).alloc (Nat.le_refl _) _
  have hrx : X.heap[w.heap.size]? = some (.cells #[.int .i64 B, .int .i64 Lv] 23 (0, 0)) := by rw [hX]; exact blk_last w _ rfl
  have l1 : X.cell? ⟨w.heap.size, 0, none⟩ = some (.int .i64 B) := Joins.cell_of_block hrx 0
  have l2 : X.cell? ⟨w.heap.size, 1, none⟩ = some (.int .i64 Lv) := Joins.cell_of_block hrx 1
  have hG := good_any B Lv X
  rw [hB] at hG
  have HG := Lib.hid hG
  have HXE := Lib.hid hX
  clear hX hrx hG hB
  rcases hj with hj | hj
  · have t1 : decide (j < 0) = true := decide_eq_true hj
    go_enter Try.func16, Try.ntmps16
    go_upto_region 1 with fail
    rw [← HXE.out]
    go_wp2_with fail
    with_reducible refine HG.out.mono ?_
    rintro e w1 ⟨rfl, hb1⟩
    have HB := Lib.hid (show Below w.heap.size w w1 from hbX.trans (hb1.mono hbX.size))
    clear hb1
    go_wp2_with fail
    go_ret2
    exact ⟨rfl, HB.out⟩
  · have t1 : decide (j < 0) = false := decide_eq_false (by omega)
    have t2 : decide (j > 30) = true := decide_eq_true hj
    go_enter Try.func16, Try.ntmps16
    go_upto_region 1 with fail
    rw [← HXE.out]
    go_wp2_with fail
    with_reducible refine HG.out.mono ?_
    rintro e w1 ⟨rfl, hb1⟩
    have HB := Lib.hid (show Below w.heap.size w w1 from hbX.trans (hb1.mono hbX.size))
    clear hb1
    go_wp2_with fail
    go_ret2
    exact ⟨rfl, HB.out⟩
set_option maxHeartbeats 1000000 in
set_option maxRecDepth 100000 in
theorem steps_range (b t : Nat) (B Lv id n : Int) (w : World) (hn : n < 0 ∨ 1073741824 < n) :
    Calls Try.prog 6 #[.pointer (some ⟨b, 0, none⟩), .int .i64 t, .agg #[.int .i64 B, .int .i64 Lv], .int .i64 id, .int .i64 n] w fun e w' => e = .returned (.tuple #[.int .i64 0, .int .i64 3]) ∧ Below w.heap.size w w' := by
  have hbX : Below w.heap.size w (w.alloc (.cells #[.int .i64 B, .int .i64 Lv] 23 (0, 0))) := (Below.refl _ _).alloc (Nat.le_refl _) _
  rcases hn with hj | hj
  · have t1 : decide (n < 0) = true := decide_eq_true hj
    go_enter Try.func6, Try.ntmps6
    go_wp2_with fail
    go_ret2
    exact ⟨rfl, hbX⟩
  · have t1 : decide (n < 0) = false := decide_eq_false (by omega)
    have t2 : decide (n > 1073741824) = true := decide_eq_true hj
    go_enter Try.func6, Try.ntmps6
    go_wp2_with fail
    go_ret2
    exact ⟨rfl, hbX⟩
set_option maxHeartbeats 1000000 in
set_option maxRecDepth 100000 in
theorem steps_rule (b t : Nat) (B Lv id n : Int) (w : World) (hn : 0 ≤ n ∧ n ≤ 1073741824) (hB : goodF B Lv = false) :
    Calls Try.prog 6 #[.pointer (some ⟨b, 0, none⟩), .int .i64 t, .agg #[.int .i64 B, .int .i64 Lv], .int .i64 id, .int .i64 n] w fun e w' => e = .returned (.tuple #[.int .i64 0, .int .i64 4]) ∧ Below w.heap.size w w' := by
  obtain ⟨X, hX⟩ : ∃ X, X = w.alloc (.cells #[.int .i64 B, .int .i64 Lv] 23 (0, 0)) := ⟨_, rfl⟩
  have hbX : Below w.heap.size w X := by rw [hX]; exact (Below.refl _ _).alloc (Nat.le_refl _) _
  have hrx : X.heap[w.heap.size]? = some (.cells #[.int .i64 B, .int .i64 Lv] 23 (0, 0)) := by rw [hX]; exact blk_last w _ rfl
  have l1 : X.cell? ⟨w.heap.size, 0, none⟩ = some (.int .i64 B) := Joins.cell_of_block hrx 0
  have l2 : X.cell? ⟨w.heap.size, 1, none⟩ = some (.int .i64 Lv) := Joins.cell_of_block hrx 1
  have hG := good_any B Lv X
  rw [hB] at hG
  have HG := Lib.hid hG
  have HXE := Lib.hid hX
  obtain ⟨h1, h2⟩ := hn
  have t1 : decide (n < 0) = false := decide_eq_false (by omega)
  have t2 : decide (n > 1073741824) = false := decide_eq_false (by omega)
  clear hX hrx hG hB
  go_enter Try.func6, Try.ntmps6
  go_upto_region 1 with fail
  rw [← HXE.out]
  go_wp2_with fail
  with_reducible refine HG.out.mono ?_
  rintro e w1 ⟨rfl, hb1⟩
  have HB := Lib.hid (show Below w.heap.size w w1 from hbX.trans (hb1.mono hbX.size))
  clear hb1
  go_wp2_with fail
  go_ret2
  exact ⟨rfl, HB.out⟩
end Go.Proofs.Ytabhpbkkjijfjaa
