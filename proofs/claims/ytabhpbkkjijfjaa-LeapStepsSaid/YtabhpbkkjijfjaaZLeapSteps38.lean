/-
  leap's code and middle; leap's leaper: its methods, in trees; leap's large: its state in memory; What Good and the document's GoodRule answer.
-/
import Derived.Test.YtabhpbkkjijfjaaZLeapStepsLSmall
import Derived.Test.YtabhpbkkjijfjaaZLeapSteps33
import Derived.Test.YtabhpbkkjijfjaaZLeapSteps30
namespace Go.Proofs.Ytabhpbkkjijfjaa
set_option maxRecDepth 100000
open Go.RowKit

theorem or_code {B Lv : Int} (b0 : 0 ≤ B) (b1 : B < 512) (l0 : 0 ≤ Lv) (l1 : Lv < 512) : bits .or .i64 (B * 512) Lv = B * 512 + Lv := by
  obtain ⟨b, rfl⟩ := Int.eq_ofNat_of_zero_le b0
  obtain ⟨l, rfl⟩ := Int.eq_ofNat_of_zero_le l0
  have h1 : (BitVec.ofInt 64 ((b : Int) * 512) ||| BitVec.ofInt 64 (l : Int)).toNat = b * 512 + l := by
    rw [BitVec.toNat_or, BitVec.toNat_ofInt, BitVec.toNat_ofInt]
    have e1 : (((b : Int) * 512) % ((2 ^ 64 : Nat) : Int)).toNat = b * 512 := by omega
    have e2 : ((l : Int) % ((2 ^ 64 : Nat) : Int)).toNat = l := by omega
    rw [e1, e2]
    have := Nat.shiftLeft_add_eq_or_of_lt (b := l) (i := 9) (by omega) b
    rw [Nat.shiftLeft_eq] at this
    exact this.symm
  show IntKind.i64.wrap ((BitVec.ofInt 64 ((b : Int) * 512) ||| BitVec.ofInt 64 (l : Int)).toNat : Int) = _
  rw [h1, IntKind.wrap_i64]
  omega
set_option maxHeartbeats 1000000 in
theorem lcode_any (B Lv : Int) (b0 : 0 ≤ B) (b1 : B < 512) (l0 : 0 ≤ Lv) (l1 : Lv < 512) (w : World) :
    Calls Try.prog 49 #[.agg #[.int .i64 B, .int .i64 Lv]] w fun e w' => e = .returned (.int .i64 (codeR B Lv)) ∧ Below w.heap.size w w' := by
  have ho := or_code b0 b1 l0 l1
  go_enter Try.func49, Try.ntmps49
  go_wp2_with fail
  go_ret
  exact ⟨by unfold codeR; simp, (Below.refl _ _).alloc (Nat.le_refl _) _⟩
set_option maxHeartbeats 4000000 in
set_option maxRecDepth 100000 in
theorem lmiddle_any (lb b t : Nat) (B Lv bad : Int) (S : ArS) (F : Nat → Prop) (g00 g01 g02 g03 g10 g11 g12 g13 g20 g21 g22 g23 g30 g31 g32 g33 : Int) (w : World) (h : IsAr b S w F) (hh : LAt lb b t B Lv bad w) (hn : ¬ F lb) (h64 : I64 g11 ∧ I64 g12 ∧ I64 g21 ∧ I64 g22) :
    Calls Try.prog 64 #[.pointer (some ⟨lb, 0, none⟩), .agg #[.int .i64 g00, .int .i64 g01, .int .i64 g02, .int .i64 g03, .int .i64 g10, .int .i64 g11, .int .i64 g12, .int .i64 g13, .int .i64 g20, .int .i64 g21, .int .i64 g22, .int .i64 g23, .int .i64 g30, .int .i64 g31, .int .i64 g32, .int .i64 g33]] w (LMut w F lb b t B Lv fun S' bad' v => ∃ r, v = .int .i64 r ∧ JoinH S t (g11, g12, g21, g22) bad r S' bad') := by
  have hlt := hh.lt
  obtain ⟨X, hXe⟩ : ∃ X, X = w.alloc (.cells #[.int .i64 g00, .int .i64 g01, .int .i64 g02, .int .i64 g03, .int .i64 g10, .int .i64 g11, .int .i64 g12, .int .i64 g13, .int .i64 g20, .int .i64 g21, .int .i64 g22, .int .i64 g23, .int .i64 g30, .int .i64 g31, .int .i64 g32, .int .i64 g33] 99 (0, 0)) := ⟨_, rfl⟩
  have hbX : Below w.heap.size w X := by rw [hXe]; exact (Below.refl _ _).alloc (Nat.le_refl _) _
  have hg : X.heap[w.heap.size]? = some (.cells #[.int .i64 g00, .int .i64 g01, .int .i64 g02, .int .i64 g03, .int .i64 g10, .int .i64 g11, .int .i64 g12, .int .i64 g13, .int .i64 g20, .int .i64 g21, .int .i64 g22, .int .i64 g23, .int .i64 g30, .int .i64 g31, .int .i64 g32, .int .i64 g33] 99 (0, 0)) := by rw [hXe]; exact blk_last w _ rfl
  have e11 : X.cell? ⟨w.heap.size, 5, none⟩ = some (.int .i64 g11) := Joins.cell_of_block hg 5
  have e12 : X.cell? ⟨w.heap.size, 6, none⟩ = some (.int .i64 g12) := Joins.cell_of_block hg 6
  have e21 : X.cell? ⟨w.heap.size, 9, none⟩ = some (.int .i64 g21) := Joins.cell_of_block hg 9
  have e22 : X.cell? ⟨w.heap.size, 10, none⟩ = some (.int .i64 g22) := Joins.cell_of_block hg 10
  have HJ := Lib.hid (ljoin_any lb b t B Lv bad S F g11 g12 g21 g22 X (h.below hbX) (hh.keep (hbX.block lb hlt)) hn h64)
  have HLS := Lib.hid (show LState w F lb b t B Lv S bad F X from (LState.refl h hh).below hbX)
  have HXE := Lib.hid hXe
  clear h hh hXe hbX hg
  go_enter Try.func64, Try.ntmps64
  go_upto_region 1 with fail
  rw [← HXE.out]
  go_wp2_with fail
  refine HJ.out.mono ?_
  rintro e w1 ⟨S', bad', v, F', rfl, hp, hst⟩
  have HP := Lib.hid hp
  have HST := Lib.hid hst
  clear hp hst
  go_wp2_with fail
  go_ret
  exact ⟨S', bad', v, F', rfl, HP.out, HLS.out.trans HST.out⟩
end Go.Proofs.Ytabhpbkkjijfjaa
namespace Go.Proofs.Ytabhpbkkjijfjaa
set_option maxRecDepth 100000
open Go.RowKit

/-- What a leaper's method makes: a number; the number is a square of a level, this tree. -/
def LMade (U : Th → Prop) (t : Nat) (S : ArS) (bad : Int) (n : Nat) (T : Tree) (S' : ArS) (bad' : Int) (v : Value) : Prop :=
  ∃ r, v = .int .i64 r ∧ I64 r ∧ LRes U t S S' bad bad' ∧ (bad' = 0 → Den S'.L t n T r)
theorem LMut.made {w w' : World} {F : Nat → Prop} {lb b t n : Nat} {B Lv bad : Int} {S : ArS} {U : Th → Prop} {q : Four} {Ta Tb Tc Td : Tree} {e : Ending} (ok : ArOk S) (wf : Wf S.L) (ht : t < 64) (hn : n < 44) (hd : bad = 0 → Den S.L t n Ta q.1 ∧ Den S.L t n Tb q.2.1 ∧ Den S.L t n Tc q.2.2.1 ∧ Den S.L t n Td q.2.2.2) (hU : U (.sq (.node Ta Tb Tc Td)))
    (h : LMut w F lb b t B Lv (fun S' bad' v => ∃ r, v = .int .i64 r ∧ JoinH S t q bad r S' bad') e w') : LMut w F lb b t B Lv (LMade U t S bad (n + 1) (.node Ta Tb Tc Td)) e w' := by
  obtain ⟨S', bad', v, F', rfl, ⟨r, rfl, h1, h2⟩, hst⟩ := h
  obtain ⟨j1, j2, j3⟩ := join_res ok wf ht hn h1 h2 hd hU
  refine ⟨S', bad', _, F', rfl, ⟨r, rfl, ?_, j1, j2⟩, hst⟩
  by_cases hb : bad' = 0
  · exact (j2 hb).i64 hst.1.ok
  · rw [j3 hb]; unfold I64; omega
theorem ljoin_tree {U : Th → Prop} (lb b t n : Nat) (B Lv bad : Int) (S : ArS) (F : Nat → Prop) (q0 q1 q2 q3 : Int) (Ta Tb Tc Td : Tree) (w : World) (h : IsAr b S w F) (wf : Wf S.L) (hh : LAt lb b t B Lv bad w) (hn : ¬ F lb) (hq : I64 q0 ∧ I64 q1 ∧ I64 q2 ∧ I64 q3) (ht : t < 64) (h44 : n < 44)
    (hd : bad = 0 → Den S.L t n Ta q0 ∧ Den S.L t n Tb q1 ∧ Den S.L t n Tc q2 ∧ Den S.L t n Td q3) (hU : U (.sq (.node Ta Tb Tc Td))) :
    Calls Try.prog 63 #[.pointer (some ⟨lb, 0, none⟩), .int .i64 q0, .int .i64 q1, .int .i64 q2, .int .i64 q3] w (LMut w F lb b t B Lv (LMade U t S bad (n + 1) (.node Ta Tb Tc Td))) :=
  (ljoin_any lb b t B Lv bad S F q0 q1 q2 q3 w h hh hn hq).mono fun _ _ g => g.made (q := (q0, q1, q2, q3)) h.ok wf ht h44 hd hU
/-- A grid's numbers, row by row. -/
def rArr (g : Nat → Nat → Int) : Array Value := #[.int .i64 (g 0 0), .int .i64 (g 0 1), .int .i64 (g 0 2), .int .i64 (g 0 3), .int .i64 (g 1 0), .int .i64 (g 1 1), .int .i64 (g 1 2), .int .i64 (g 1 3), .int .i64 (g 2 0), .int .i64 (g 2 1), .int .i64 (g 2 2), .int .i64 (g 2 3), .int .i64 (g 3 0), .int .i64 (g 3 1), .int .i64 (g 3 2), .int .i64 (g 3 3)]
def gN (S : ArS) (t : Nat) (bad id : Int) (y x : Nat) : Int := fsel (kidsB S t bad (fsel (kidsB S t bad id) (y / 2 * 2 + x / 2))) (y % 2 * 2 + x % 2)
theorem gridB_eq (S : ArS) (t : Nat) (bad id : Int) : gridB S t bad id = .agg (rArr (gN S t bad id)) := rfl
theorem fsel_den {S : ArS} {t n : Nat} {T : Tree} {id : Int} (ht : t < 64) (h : Den S.L t (n + 1) T id) (k : Nat) : Den S.L t n (kidN k T) (fsel (kidsA S t id).1 k) := by
  obtain ⟨_, h0, h1, h2, h3⟩ := kids_den ht h
  match k with
  | 0 => exact h0
  | 1 => exact h1
  | 2 => exact h2
  | k + 3 =>
    have e : kidN (k + 3) T = kidN 3 T := by cases T <;> rfl
    rw [e]; exact h3
theorem gN_den {S : ArS} {t n : Nat} {T : Tree} {id : Int} (ht : t < 64) (h : Den S.L t (n + 2) T id) (y x : Nat) : Den S.L t n (gridT T y x) (gN S t 0 id y x) := by
  unfold gN kidsB gridT
  rw [if_pos rfl, if_pos rfl]
  exact fsel_den ht (fsel_den (n := n + 1) ht h _) _
theorem fsel_zero (k : Nat) : fsel (0, 0, 0, 0) k = 0 := by
  match k with
  | 0 => rfl
  | 1 => rfl
  | 2 => rfl
  | k + 3 => rfl
theorem gN_i64 {S : ArS} (ok : ArOk S) {t n : Nat} {T : Tree} {bad id : Int} (ht : t < 64) (h : bad = 0 → Den S.L t (n + 2) T id) (y x : Nat) : I64 (gN S t bad id y x) := by
  by_cases hb : bad = 0
  · rw [hb]; exact (gN_den ht (h hb) y x).i64 ok
  · unfold gN kidsB
    rw [if_neg hb, fsel_zero]; unfold I64; omega
theorem lgrid_tree (lb b t n : Nat) (B Lv bad : Int) (S : ArS) (F : Nat → Prop) (id : Int) (T : Tree) (w : World) (h : IsAr b S w F) (hh : LAt lb b t B Lv bad w) (hn : ¬ F lb) (ht : t < 64) (hd : bad = 0 → Den S.L t (n + 2) T id) :
    Calls Try.prog 50 #[.pointer (some ⟨lb, 0, none⟩), .int .i64 id] w (LRead w lb b t B Lv (.agg (rArr (gN S t bad id))) bad) := by
  rw [← gridB_eq]
  exact lgrid_any lb b t B Lv bad S F id w h hh hn fun hb => ⟨(kids_den ht (hd hb)).1, fun k => (kids_den ht (fsel_den (n := n + 1) ht (hd hb) k)).1⟩
theorem lmiddle_tree {U : Th → Prop} (lb b t n : Nat) (B Lv bad : Int) (S : ArS) (F : Nat → Prop) (id : Int) (T : Tree) (w : World) (h : IsAr b S w F) (wf : Wf S.L) (hh : LAt lb b t B Lv bad w) (hn : ¬ F lb) (ht : t < 64) (h44 : n < 44) (hd : bad = 0 → Den S.L t (n + 2) T id) (hU : U (.sq (midT T))) :
    Calls Try.prog 64 #[.pointer (some ⟨lb, 0, none⟩), .agg (rArr (gN S t bad id))] w (LMut w F lb b t B Lv (LMade U t S bad (n + 1) (midT T))) := by
  obtain ⟨g, hg⟩ : ∃ g, g = gN S t bad id := ⟨_, rfl⟩
  have h64 : ∀ y x, I64 (g y x) := fun y x => by rw [hg]; exact gN_i64 h.ok ht hd y x
  have hden : bad = 0 → ∀ y x, Den S.L t n (gridT T y x) (g y x) := fun hb y x => by rw [hg, hb]; exact gN_den ht (hd hb) y x
  rw [← hg]
  unfold rArr
  exact (lmiddle_any lb b t B Lv bad S F (g 0 0) (g 0 1) (g 0 2) (g 0 3) (g 1 0) (g 1 1) (g 1 2) (g 1 3) (g 2 0) (g 2 1) (g 2 2) (g 2 3) (g 3 0) (g 3 1) (g 3 2) (g 3 3) w h hh hn ⟨h64 1 1, h64 1 2, h64 2 1, h64 2 2⟩).mono fun e w' k => k.made (q := (g 1 1, g 1 2, g 2 1, g 2 2)) h.ok wf ht h44 (fun hb => ⟨hden hb 1 1, hden hb 1 2, hden hb 2 1, hden hb 2 2⟩) hU
theorem leaf_den {L : List (Option Ent)} {t : Nat} (b : Bool) : Den L t 0 (.leaf b) (if b = true then 1 else 0) := rfl
theorem cell_num {L : List (Option Ent)} {t : Nat} {T : Tree} {id : Int} (h : Den L t 0 T id) : id = b2i (getT 0 T 0 0) := by
  match T, h with
  | .leaf b, h =>
    have h : id = if b then 1 else 0 := h
    rw [h]; rfl
  | .node _ _ _ _, h => exact h.elim
theorem b2i_one (b : Bool) : (b2i b == 1) = b := by cases b <;> rfl
theorem b2i_bound (b : Bool) : 0 ≤ b2i b ∧ b2i b ≤ 1 := by cases b <;> decide
set_option maxHeartbeats 1000000 in
theorem lsmall_tree {U : Th → Prop} (lb b t : Nat) (B Lv : Int) (S : ArS) (F : Nat → Prop) (id : Int) (T : Tree) (w : World) (h : IsAr b S w F) (wf : Wf S.L) (hh : LAt lb b t B Lv 0 w) (hn : ¬ F lb) (ht : t < 64) (hd : Den S.L t 2 T id) (hU : U (.sq (smallT B Lv T))) :
    Calls Try.prog 51 #[.pointer (some ⟨lb, 0, none⟩), .agg (rArr (gN S t 0 id))] w (LMut w F lb b t B Lv (LMade U t S 0 1 (smallT B Lv T))) := by
  have hg : ∀ y x, gN S t 0 id y x = b2i (gB T y x) := fun y x => cell_num (gN_den (n := 0) ht hd y x)
  have e : rArr (gN S t 0 id) = rArr (fun y x => b2i (gB T y x)) := by
    congr 1
    funext y x
    exact hg y x
  rw [e]
  unfold rArr
  have hs : ∀ y x : Nat, 1 ≤ y → 1 ≤ x → -b2i (gB T y x) + b2i (gB T (y - 1) (x - 1)) + b2i (gB T (y - 1) x) + b2i (gB T (y - 1) (x + 1)) + b2i (gB T y (x - 1)) + b2i (gB T y x) + b2i (gB T y (x + 1)) + b2i (gB T (y + 1) (x - 1)) + b2i (gB T (y + 1) x) + b2i (gB T (y + 1) (x + 1)) = nearG T y x := fun y x _ _ => by unfold nearG; omega
  refine (lsmall_any lb b t B Lv 0 S F (b2i (gB T 0 0)) (b2i (gB T 0 1)) (b2i (gB T 0 2)) (b2i (gB T 0 3)) (b2i (gB T 1 0)) (b2i (gB T 1 1)) (b2i (gB T 1 2)) (b2i (gB T 1 3)) (b2i (gB T 2 0)) (b2i (gB T 2 1)) (b2i (gB T 2 2)) (b2i (gB T 2 3)) (b2i (gB T 3 0)) (b2i (gB T 3 1)) (b2i (gB T 3 2)) (b2i (gB T 3 3)) w h hh hn (b2i_bound _) (b2i_bound _) (b2i_bound _) (b2i_bound _) (b2i_bound _) (b2i_bound _) (b2i_bound _) (b2i_bound _) (b2i_bound _) (b2i_bound _) (b2i_bound _) (b2i_bound _) (b2i_bound _) (b2i_bound _) (b2i_bound _) (b2i_bound _)).mono fun e w' k => ?_
  rw [b2i_one, b2i_one, b2i_one, b2i_one] at k
  have k11 := hs 1 1 (by omega) (by omega)
  have k12 := hs 1 2 (by omega) (by omega)
  have k21 := hs 2 1 (by omega) (by omega)
  have k22 := hs 2 2 (by omega) (by omega)
  simp only [Nat.sub_self, Nat.reduceSub, Nat.reduceAdd] at k11 k12 k21 k22
  rw [k11, k12, k21, k22] at k
  exact k.made (q := (if smallQ B Lv T 1 1 = true then 1 else 0, if smallQ B Lv T 1 2 = true then 1 else 0, if smallQ B Lv T 2 1 = true then 1 else 0, if smallQ B Lv T 2 2 = true then 1 else 0)) h.ok wf ht (by omega) (fun _ => ⟨leaf_den _, leaf_den _, leaf_den _, leaf_den _⟩) hU
end Go.Proofs.Ytabhpbkkjijfjaa
namespace Go.Proofs.Ytabhpbkkjijfjaa
set_option maxRecDepth 100000
open Go.RowKit

def nArr (v : Nat → Int) : Array Value := #[.int .i64 (v 0), .int .i64 (v 1), .int .i64 (v 2), .int .i64 (v 3), .int .i64 (v 4), .int .i64 (v 5), .int .i64 (v 6), .int .i64 (v 7), .int .i64 (v 8)]
def qArr (v : Nat → Int) : Array Value := #[.int .i64 (v 0), .int .i64 (v 1), .int .i64 (v 2), .int .i64 (v 3)]
def updN (v : Nat → Int) (k : Nat) (r : Int) : Nat → Int := fun i => if i = k then r else v i
/-- Behind some rounds of large's loops. -/
structure LS (U : Th → Prop) (w : World) (F : Nat → Prop) (lb b t : Nat) (B Lv : Int) (S0 : ArS) (g : Nat → Nat → Int) (m : Nat) (TN TQ : Nat → Tree) (qb : Nat) (nv qv : Nat → Int) (kn kq : Nat) (S1 : ArS) (b1 : Int) (F1 : Nat → Prop) (W : World) : Prop where
  st : LState w F lb b t B Lv S1 b1 F1 W
  res : LRes U t S0 S1 0 b1
  grid : W.heap[w.heap.size]? = some (.cells (rArr g) 99 (0, 0))
  nine : W.heap[w.heap.size + 1]? = some (.cells (nArr nv) 113 (0, 0))
  four : qb ≠ w.heap.size → W.heap[qb]? = some (.cells (qArr qv) 72 (0, 0))
  free : ¬ F1 w.heap.size ∧ ¬ F1 (w.heap.size + 1) ∧ ¬ F1 qb
  base : w.heap.size ≤ qb ∧ qb ≠ w.heap.size + 1 ∧ qb < W.heap.size
  nI : ∀ k, I64 (nv k)
  qI : ∀ k, I64 (qv k)
  nD : b1 = 0 → ∀ k, k < kn → Den S1.L t (m + 1) (TN k) (nv k)
  qD : b1 = 0 → ∀ k, k < kq → Den S1.L t (m + 1) (TQ k) (qv k)
  out : ¬ F lb ∧ lb < w.heap.size
section
variable {U : Th → Prop} {w W W' W2 : World} {F F1 F2 : Nat → Prop} {lb b t m qb kn kq : Nat} {B Lv b1 b2 : Int} {S0 S1 S2 : ArS} {g : Nat → Nat → Int} {TN TQ : Nat → Tree} {nv qv : Nat → Int}
theorem LS.lbF (h : LS U w F lb b t B Lv S0 g m TN TQ qb nv qv kn kq S1 b1 F1 W) : ¬ F1 lb := h.st.out h.out.1 h.out.2
theorem LS.go (h : LS U w F lb b t B Lv S0 g m TN TQ qb nv qv kn kq S1 b1 F1 W) (hs : LState W F1 lb b t B Lv S2 b2 F2 W2) (hr : LRes U t S1 S2 b1 b2) : LS U w F lb b t B Lv S0 g m TN TQ qb nv qv kn kq S2 b2 F2 W2 := by
  obtain ⟨f1, f2, f3⟩ := h.free
  have hlt := h.out.2
  have k1 : ∀ i, w.heap.size ≤ i → ¬ F1 i → i < W.heap.size → W2.heap[i]? = W.heap[i]? := fun i i1 i2 i3 => hs.2.2.2.block i i3 (fun e => by rcases e with e | e; exact i2 e; omega)
  have k2 : ∀ i, ¬ F1 i → i < W.heap.size → ¬ F2 i := fun i i1 i2 e => by
    rcases hs.2.2.1 i e with e | e
    · exact i1 e
    · omega
  have l1 := lt_of_block h.grid
  have l2 := lt_of_block h.nine
  refine ⟨h.st.trans hs, h.res.trans hr, (k1 _ (Nat.le_refl _) f1 l1).trans h.grid, (k1 _ (by omega) f2 l2).trans h.nine, fun e => (k1 _ h.base.1 f3 h.base.2.2).trans (h.four e), ⟨k2 _ f1 l1, k2 _ f2 l2, k2 _ f3 h.base.2.2⟩, ⟨h.base.1, h.base.2.1, Nat.lt_of_lt_of_le h.base.2.2 hs.2.2.2.size⟩, h.nI, h.qI, fun e k hk => (h.nD (hr.nil e) k hk).ext (hr.ext t), fun e k hk => (h.qD (hr.nil e) k hk).ext (hr.ext t), h.out⟩
theorem LState.drew (h : LState W.drew F1 lb b t B Lv S2 b2 F2 W2) : LState W F1 lb b t B Lv S2 b2 F2 W2 := ⟨h.1, h.2.1, h.2.2.1, (Keeps.refl _ W).drew.trans h.2.2.2 fun _ _ e => e⟩
theorem LRead.state {v : Value} {e : Ending} (hi : IsAr b S1 W F1) (hn : ¬ F1 lb) (h : LRead W lb b t B Lv v b2 e W2) : LState W F1 lb b t B Lv S1 b2 F1 W2 :=
  ⟨hi.keep (G := fun i => i = lb) h.2.2 (fun i hF e => hn (by rw [← e]; exact hF)), h.2.1, fun _ hi => .inl hi, h.2.2.mono fun i _ e => .inr e⟩
theorem LS.ar (h : LS U w F lb b t B Lv S0 g m TN TQ qb nv qv kn kq S1 b1 F1 W) : IsAr b S1 W.drew F1 := h.st.1.keep ((Keeps.refl (fun _ => False) W).drew) (fun _ _ e => e)
theorem LS.at_ (h : LS U w F lb b t B Lv S0 g m TN TQ qb nv qv kn kq S1 b1 F1 W) : LAt lb b t B Lv b1 W.drew := h.st.2.1.drew
theorem LS.cellG (h : LS U w F lb b t B Lv S0 g m TN TQ qb nv qv kn kq S1 b1 F1 W) (k : Nat) : W.cell? ⟨w.heap.size, k, none⟩ = (rArr g)[k]? := Joins.cell_of_block h.grid k
theorem LS.cellN (h : LS U w F lb b t B Lv S0 g m TN TQ qb nv qv kn kq S1 b1 F1 W) (k : Nat) : W.cell? ⟨w.heap.size + 1, k, none⟩ = (nArr nv)[k]? := Joins.cell_of_block h.nine k
theorem LS.cellQ (h : LS U w F lb b t B Lv S0 g m TN TQ qb nv qv kn kq S1 b1 F1 W) (hq : qb ≠ w.heap.size) (k : Nat) : W.cell? ⟨qb, k, none⟩ = (qArr qv)[k]? := Joins.cell_of_block (h.four hq) k
theorem LS.fzN (h : LS U w F lb b t B Lv S0 g m TN TQ qb nv qv kn kq S1 b1 F1 W) (k : Nat) : W.frozen? ⟨w.heap.size + 1, k, none⟩ = false := Joins.unfrozen_of_block h.nine k
theorem LS.fzQ (h : LS U w F lb b t B Lv S0 g m TN TQ qb nv qv kn kq S1 b1 F1 W) (hq : qb ≠ w.heap.size) (k : Nat) : W.frozen? ⟨qb, k, none⟩ = false := Joins.unfrozen_of_block (h.four hq) k
theorem nArr_set (v : Nat → Int) {k : Nat} (hk : k < 9) (r : Int) : (nArr v).setIfInBounds k (.int .i64 r) = nArr (updN v k r) := by
  rcases (show k = 0 ∨ k = 1 ∨ k = 2 ∨ k = 3 ∨ k = 4 ∨ k = 5 ∨ k = 6 ∨ k = 7 ∨ k = 8 by omega) with rfl | rfl | rfl | rfl | rfl | rfl | rfl | rfl | rfl <;> rfl
theorem qArr_set (v : Nat → Int) {k : Nat} (hk : k < 4) (r : Int) : (qArr v).setIfInBounds k (.int .i64 r) = qArr (updN v k r) := by
  rcases (show k = 0 ∨ k = 1 ∨ k = 2 ∨ k = 3 by omega) with rfl | rfl | rfl | rfl <;> rfl
/-- A block of one's own is written. -/
theorem LS.wr (h : LS U w F lb b t B Lv S0 g m TN TQ qb nv qv kn kq S1 b1 F1 W) {i j : Nat} (hi : w.heap.size ≤ i) (hF : ¬ F1 i) (u : Value) : LState w F lb b t B Lv S1 b1 F1 (W.setCell ⟨i, j, none⟩ u) :=
  h.st.mine (p := ⟨i, j, none⟩) hi hF (by have := h.out.2; show lb ≠ i; omega) u
theorem LS.putN (h : LS U w F lb b t B Lv S0 g m TN TQ qb nv qv kn kq S1 b1 F1 W) (hk : kn < 9) {r : Int} (hr : I64 r) (hd : b1 = 0 → Den S1.L t (m + 1) (TN kn) r) : ∃ nv', LS U w F lb b t B Lv S0 g m TN TQ qb nv' qv (kn + 1) kq S1 b1 F1 (W.setCell ⟨w.heap.size + 1, kn, none⟩ (.int .i64 r)) := by
  refine ⟨updN nv kn r, h.wr (by omega) h.free.2.1 _, h.res, ?_, ?_, fun e => ?_, h.free, ⟨h.base.1, h.base.2.1, by simpa [World.setCell] using h.base.2.2⟩, fun k => ?_, h.qI, fun e k hk' => ?_, h.qD, h.out⟩
  · rw [Below.heap_setCell _ _ _ _ (by show w.heap.size ≠ w.heap.size + 1; omega)]; exact h.grid
  · rw [← nArr_set nv hk]; exact Joins.block_setCell h.nine _
  · rw [Below.heap_setCell _ _ _ _ h.base.2.1]; exact h.four e
  · unfold updN; split
    · exact hr
    · exact h.nI k
  · unfold updN
    by_cases e2 : k = kn
    · rw [if_pos e2, e2]; exact hd e
    · rw [if_neg e2]; exact h.nD e k (by omega)
theorem LS.putQ (h : LS U w F lb b t B Lv S0 g m TN TQ qb nv qv kn kq S1 b1 F1 W) (hq : qb ≠ w.heap.size) (hk : kq < 4) {r : Int} (hr : I64 r) (hd : b1 = 0 → Den S1.L t (m + 1) (TQ kq) r) : ∃ qv', LS U w F lb b t B Lv S0 g m TN TQ qb nv qv' kn (kq + 1) S1 b1 F1 (W.setCell ⟨qb, kq, none⟩ (.int .i64 r)) := by
  refine ⟨updN qv kq r, h.wr h.base.1 h.free.2.2 _, h.res, ?_, ?_, fun e => ?_, h.free, ⟨h.base.1, h.base.2.1, by simpa [World.setCell] using h.base.2.2⟩, h.nI, fun k => ?_, h.nD, fun e k hk' => ?_, h.out⟩
  · rw [Below.heap_setCell _ _ _ _ (Ne.symm hq)]; exact h.grid
  · rw [Below.heap_setCell _ _ _ _ (Ne.symm h.base.2.1)]; exact h.nine
  · rw [← qArr_set qv hk]; exact Joins.block_setCell (h.four hq) _
  · unfold updN; split
    · exact hr
    · exact h.qI k
  · unfold updN
    by_cases e2 : k = kq
    · rw [if_pos e2, e2]; exact hd e
    · rw [if_neg e2]; exact h.qD e k (by omega)
/-- The last block is made. -/
theorem LS.newQ (h : LS U w F lb b t B Lv S0 g m TN TQ qb nv qv kn kq S1 b1 F1 W) : LS U w F lb b t B Lv S0 g m TN TQ W.heap.size nv (fun _ => 0) kn 0 S1 b1 F1 (W.alloc (.cells #[.int .i64 0, .int .i64 0, .int .i64 0, .int .i64 0] 72 (0, 0))) := by
  have l1 := lt_of_block h.grid
  have l2 := lt_of_block h.nine
  refine ⟨h.st.below ((Below.refl _ _).alloc (Nat.le_refl _) _), h.res, (Below.heap_alloc _ _ _ l1).trans h.grid, (Below.heap_alloc _ _ _ l2).trans h.nine, fun _ => blk_last _ _ rfl, ⟨h.free.1, h.free.2.1, fun e => ?_⟩, ⟨by omega, by omega, by simp⟩, h.nI, fun _ => by unfold I64; omega, h.nD, fun _ k hk => absurd hk (Nat.not_lt_zero k), h.out⟩
  have := h.st.1.lt _ e
  omega
end
/-- result's contract, at one level. -/
def ResOk (n : Nat) : Prop := ∀ (U : Th → Prop) (lb b t : Nat) (B Lv bad : Int) (S : ArS) (F : Nat → Prop) (id : Int) (T : Tree) (j : Nat) (w : World), IsAr b S w F → Wf S.L → NoteI S.L → LAt lb b t B Lv bad w → ¬ F lb → t < 64 → (0 ≤ B ∧ B < 512 ∧ 0 ≤ Lv ∧ Lv < 512) → j ≤ n → (bad = 0 → Den S.L t (n + 2) T id) → I64 id → (∀ th, Dem B Lv n j T th → U th) →
  Calls Try.prog 33 #[.pointer (some ⟨lb, 0, none⟩), .int .i64 id, .int .i64 ((n + 2 : Nat) : Int), .int .i64 (j : Int)] w (LMut w F lb b t B Lv (LMade U t S bad (n + 1) (leapT B Lv n j T)))
end Go.Proofs.Ytabhpbkkjijfjaa
namespace Go.Proofs.Ytabhpbkkjijfjaa
set_option maxRecDepth 100000
open Go.RowKit

/-- Whether a rule is one. -/
def goodF (b l : Int) : Bool := decide (0 ≤ b) && decide (b < 512) && decide (0 ≤ l) && decide (l < 512) && (b % 2 == 0)
theorem sixR (b l : Int) : b < 0 ∨ (0 ≤ b ∧ 512 ≤ b) ∨ (0 ≤ b ∧ b < 512 ∧ l < 0) ∨ (0 ≤ b ∧ b < 512 ∧ 0 ≤ l ∧ 512 ≤ l) ∨ (0 ≤ b ∧ b < 512 ∧ 0 ≤ l ∧ l < 512) := by omega
theorem good_no {b l : Int} (h : b < 0 ∨ 512 ≤ b ∨ l < 0 ∨ 512 ≤ l) : goodF b l = false := by
  rw [Bool.eq_false_iff]; intro h'; simp [goodF] at h'; omega
theorem good_in {b l : Int} (h0 : 0 ≤ b) (h1 : b < 512) (h2 : 0 ≤ l) (h3 : l < 512) : goodF b l = (b % 2 == 0) := by
  simp [goodF, h0, h1, h2, h3]

set_option maxHeartbeats 1000000 in
theorem good_any (b l : Int) (w : World) :
    Calls Try.prog 14 #[.agg #[.int .i64 b, .int .i64 l]] w fun e w' => e = .returned (.bool (goodF b l)) ∧ Below w.heap.size w w' := by
  rcases sixR b l with h0 | ⟨h0, h1⟩ | ⟨h0, h1, h2⟩ | ⟨h0, h1, h2, h3⟩ | ⟨h0, h1, h2, h3⟩
  rotate_right
  · rw [good_in h0 h1 h2 h3]
    go_enter Try.func14, Try.ntmps14
    go_wp2
    go_ret
    exact ⟨by simp [and_one_i64], (Below.refl _ _).alloc (Nat.le_refl _) _⟩
  all_goals
    rw [good_no (by omega)]
    go_enter Try.func14, Try.ntmps14
    go_wp2
    go_ret
    exact ⟨rfl, (Below.refl _ _).alloc (Nat.le_refl _) _⟩
set_option maxHeartbeats 1000000 in
theorem refGood_any (b l : Int) (w : World) :
    Calls Try.prog 7 #[.agg #[.int .i64 b, .int .i64 l]] w fun e w' => e = .returned (.bool (goodF b l)) ∧ Below w.heap.size w w' := by
  rcases sixR b l with h0 | ⟨h0, h1⟩ | ⟨h0, h1, h2⟩ | ⟨h0, h1, h2, h3⟩ | ⟨h0, h1, h2, h3⟩
  rotate_right
  · rw [good_in h0 h1 h2 h3]
    have c1 : b ≤ 511 := by omega
    have c2 : l ≤ 511 := by omega
    go_enter Try.func7, Try.ntmps7
    go_wp2
    go_ret
    exact ⟨by simp, (Below.refl _ _).alloc (Nat.le_refl _) _⟩
  all_goals
    rw [good_no (by omega)]
    go_enter Try.func7, Try.ntmps7
    go_wp2
    go_ret
    exact ⟨rfl, (Below.refl _ _).alloc (Nat.le_refl _) _⟩
end Go.Proofs.Ytabhpbkkjijfjaa
