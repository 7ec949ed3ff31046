/-
  Cells as runs of letters on lines: plain lists.
-/
import Derived.Test.YtdmamecfmfhlmaaDoorDigMath
import Derived.Test.YtdmamecfmfhlmaaDoorPlaneMath
import Derived.Test.YtdmamecfmfhlmaaDoorBoxes
import Derived.Test.YtdmamecfmfhlmaaDoorRuleTexts
namespace Go.Proofs.YtdmamecfmfhlmaaDoor
set_option maxRecDepth 100000

/-- n times a letter, as a piece. -/
def tokT (n : Nat) (c : UInt8) : List UInt8 := (if 1 < n then Lib.decDigits n else []) ++ [c]
def tok (n : Nat) (c : UInt8) : List (List UInt8) := if n = 0 then [] else [tokT n c]
theorem dec_len {n : Nat} (hn : n < 18446744073709551616) : (Lib.decDigits n).length ≤ 64 := by rw [← numT_dec]; exact numT_len (by omega) hn
theorem tokT_len {n : Nat} (c : UInt8) (hn : n < 18446744073709551616) : (tokT n c).length ≤ 65 := by
  have := dec_len hn
  unfold tokT
  rw [List.length_append]
  split <;> simp <;> omega
/-- How many cells run on behind a cell, it counted. -/
def runN (c : Int × Int) : Nat → List (Int × Int) → Nat
  | n, [] => n
  | n, d :: r => if d.2 = c.2 ∧ d.1 = c.1 + n then runN c (n + 1) r else n
theorem runN_spec (c : Int × Int) : ∀ (l : List (Int × Int)) (n : Nat), ∃ k, runN c n l = n + k ∧ k ≤ l.length ∧ ∀ j, j < k → l[j]? = some (c.1 + ((n + j : Nat) : Int), c.2)
  | [], n => ⟨0, rfl, Nat.le_refl _, fun j hj => absurd hj (by omega)⟩
  | d :: r, n => by
    rw [runN]
    split
    · next h =>
      obtain ⟨k, h1, h2, h3⟩ := runN_spec c r (n + 1)
      refine ⟨k + 1, by rw [h1]; omega, by simpa using h2, fun j hj => ?_⟩
      match j with
      | 0 => simp only [List.getElem?_cons_zero, Nat.add_zero]; obtain ⟨d1, d2⟩ := d; simp only at h; rw [h.1, h.2]
      | j + 1 => rw [List.getElem?_cons_succ, h3 j (by omega)]; congr 3; omega
    · exact ⟨0, rfl, Nat.zero_le _, fun j hj => absurd hj (by omega)⟩
/-- The letters of cells in order; x, y: where the last one ended; X0: the left edge. -/
def pcs (X0 : Int) : Nat → Int → Int → List (Int × Int) → List (List UInt8)
  | 0, _, _, _ => []
  | _ + 1, _, _, [] => []
  | f + 1, x, y, c :: r => tok (c.2 - y).toNat 36 ++ (tok (c.1 - (if y < c.2 then X0 else x)).toNat 98 ++ (tok (runN c 0 (c :: r)) 111 ++ pcs X0 f (c.1 + (runN c 0 (c :: r) : Nat)) c.2 ((c :: r).drop (runN c 0 (c :: r)))))
theorem tok_count (n : Nat) (c : UInt8) : (tok n c).length ≤ 1 := by unfold tok; split <;> simp
theorem pcs_count (X0 : Int) : ∀ (f : Nat) (x y : Int) (s : List (Int × Int)), (pcs X0 f x y s).length ≤ 3 * f
  | 0, _, _, _ => by simp [pcs]
  | f + 1, _, _, [] => by simp [pcs]
  | f + 1, x, y, c :: r => by
    rw [pcs, List.length_append, List.length_append, List.length_append]
    have h1 := pcs_count X0 f (c.1 + (runN c 0 (c :: r) : Nat)) c.2 ((c :: r).drop (runN c 0 (c :: r)))
    have h2 := tok_count (c.2 - y).toNat 36
    have h3 := tok_count (c.1 - (if y < c.2 then X0 else x)).toNat 98
    have h4 := tok_count (runN c 0 (c :: r)) 111
    omega
theorem pcs_nil (X0 : Int) (f : Nat) (x y : Int) : pcs X0 f x y [] = [] := by cases f <;> rfl
/-- Pieces on lines: the text, and the bytes of its last line. -/
def layP (st : List UInt8 × Nat) (p : List UInt8) : List UInt8 × Nat := if 70 < st.2 + p.length then (st.1 ++ [10] ++ p, p.length) else (st.1 ++ p, st.2 + p.length)
def layF (st : List UInt8 × Nat) (ps : List (List UInt8)) : List UInt8 × Nat := ps.foldl layP st
theorem layF_append (st : List UInt8 × Nat) (a b : List (List UInt8)) : layF st (a ++ b) = layF (layF st a) b := by simp [layF, List.foldl_append]
theorem layF_nil (st : List UInt8 × Nat) : layF st [] = st := rfl
theorem layF_one (st : List UInt8 × Nat) (p : List UInt8) : layF st [p] = layP st p := rfl
theorem layP_len (st : List UInt8 × Nat) (p : List UInt8) : (layP st p).1.length ≤ st.1.length + p.length + 1 := by
  unfold layP
  split <;> simp <;> omega
theorem layP_col {st : List UInt8 × Nat} {p : List UInt8} (h : st.2 ≤ 70) (hp : p.length ≤ 70) : (layP st p).2 ≤ 70 := by
  unfold layP
  split <;> simp <;> omega
/-! ### The way along the cells -/
def Near (n : Int) : Prop := -1099511627776 < n ∧ n < 1099511627776
structure Way (X0 x y : Int) (s : List (Int × Int)) : Prop where
  near : ∀ c ∈ s, Near c.1 ∧ Near c.2
  edge : Near X0
  left : ∀ c ∈ s, X0 ≤ c.1
  rise : Rising s
  head : ∀ c r, s = c :: r → y ≤ c.2 ∧ (c.2 = y → x ≤ c.1)
  nx : -1099511627776 < x ∧ x < 1099511636000
  ny : Near y
theorem Way.next {X0 x y : Int} {c : Int × Int} {r : List (Int × Int)} (h : Way X0 x y (c :: r)) (hl : (c :: r).length ≤ 4096) : Way X0 (c.1 + (runN c 0 (c :: r) : Nat)) c.2 ((c :: r).drop (runN c 0 (c :: r))) := by
  obtain ⟨k, hk, hkl, hkj⟩ := runN_spec c (c :: r) 0
  have hc := h.near c (List.mem_cons_self ..)
  have hN : runN c 0 (c :: r) = k := by omega
  rw [hN]
  refine ⟨fun d hd => h.near d (List.mem_of_mem_drop hd), h.edge, fun d hd => h.left d (List.mem_of_mem_drop hd), h.rise.drop, fun d r' hd => ?_, ?_, hc.2⟩
  · have hdk : (c :: r)[k]? = some d := by
      have : ((c :: r).drop k)[0]? = some d := by rw [hd]; rfl
      rwa [List.getElem?_drop, Nat.add_zero] at this
    rcases Nat.eq_zero_or_pos k with rfl | hk0
    · rw [List.getElem?_cons_zero] at hdk
      obtain rfl : c = d := Option.some.inj hdk
      exact ⟨Int.le_refl _, fun _ => by simp⟩
    · have h1 := hkj (k - 1) (by omega)
      have hlt : cellLt (c.1 + ((0 + (k - 1) : Nat) : Int), c.2) d = true := by
        have hp := h.rise
        unfold Rising at hp
        rw [List.pairwise_iff_getElem] at hp
        have a1 := List.getElem?_eq_some_iff.1 h1
        have a2 := List.getElem?_eq_some_iff.1 hdk
        have := hp (k - 1) k a1.1 a2.1 (by omega)
        rwa [a1.2, a2.2] at this
      rw [cellLt_iff] at hlt
      simp only at hlt
      refine ⟨by omega, fun he => ?_⟩
      rcases hlt with h' | ⟨_, h'⟩ <;> omega
  · obtain ⟨⟨h1, h2⟩, _⟩ := hc
    constructor <;> omega
theorem runN_pos (c : Int × Int) (r : List (Int × Int)) : 0 < runN c 0 (c :: r) ∧ runN c 0 (c :: r) ≤ (c :: r).length := by
  obtain ⟨k, hk, hkl, _⟩ := runN_spec c (c :: r) 0
  obtain ⟨j, hj, _, _⟩ := runN_spec c r 1
  have e : runN c 0 (c :: r) = runN c 1 r := by rw [runN, if_pos ⟨rfl, by simp⟩]
  omega
/-! ### The box -/
theorem box_fold : ∀ (l : List (Int × Int)) (b : BoxD), let t := l.foldl boxStep b
    t.x0 ≤ b.x0 ∧ t.y0 ≤ b.y0 ∧ b.x1 ≤ t.x1 ∧ b.y1 ≤ t.y1 ∧ (∀ c ∈ l, t.x0 ≤ c.1 ∧ t.y0 ≤ c.2 ∧ c.1 ≤ t.x1 ∧ c.2 ≤ t.y1)
  | [], b => ⟨Int.le_refl _, Int.le_refl _, Int.le_refl _, Int.le_refl _, fun c hc => by cases hc⟩
  | d :: r, b => by
    obtain ⟨h1, h2, h3, h4, h5⟩ := box_fold r (boxStep b d)
    simp only [List.foldl_cons]
    have e : (boxStep b d).x0 ≤ b.x0 ∧ (boxStep b d).x0 ≤ d.1 ∧ (boxStep b d).y0 ≤ b.y0 ∧ (boxStep b d).y0 ≤ d.2 ∧ b.x1 ≤ (boxStep b d).x1 ∧ d.1 ≤ (boxStep b d).x1 ∧ b.y1 ≤ (boxStep b d).y1 ∧ d.2 ≤ (boxStep b d).y1 := by
      simp only [boxStep]
      omega
    refine ⟨by omega, by omega, by omega, by omega, fun c hc => ?_⟩
    rcases List.mem_cons.1 hc with rfl | hc
    · exact ⟨by omega, by omega, by omega, by omega⟩
    · exact h5 c hc
theorem box_near : ∀ (l : List (Int × Int)) (b : BoxD), (∀ c ∈ l, Near c.1 ∧ Near c.2) → Near b.x0 ∧ Near b.y0 ∧ Near b.x1 ∧ Near b.y1 → let t := l.foldl boxStep b
    Near t.x0 ∧ Near t.y0 ∧ Near t.x1 ∧ Near t.y1
  | [], _, _, h => h
  | d :: r, b, hl, h => by
    refine box_near r (boxStep b d) (fun c hc => hl c (List.mem_cons_of_mem _ hc)) ?_
    have hd := hl d (List.mem_cons_self ..)
    unfold Near at *
    simp only [boxStep]
    omega
theorem Way.start {s : List (Int × Int)} (hn : ∀ c ∈ s, Near c.1 ∧ Near c.2) (hr : Rising s) : Way (boxF s).x0 (boxF s).x0 (boxF s).y0 s ∧ Near (boxF s).x1 ∧ Near (boxF s).y1 ∧ (s ≠ [] → (boxF s).x0 ≤ (boxF s).x1 ∧ (boxF s).y0 ≤ (boxF s).y1) := by
  match s with
  | [] =>
    refine ⟨⟨(fun c hc => by cases hc), ?_, (fun c hc => by cases hc), List.Pairwise.nil, (fun c r h => by cases h), ?_, ?_⟩, ?_, ?_, fun h => absurd rfl h⟩ <;> (simp only [boxF, boxTo, Near]; decide)
  | c :: r =>
    have e : boxF (c :: r) = (c :: r).foldl boxStep (boxFrom c) := by simp [boxF, boxTo]
    have hc := hn c (List.mem_cons_self ..)
    obtain ⟨n1, n2, n3, n4⟩ := box_near (c :: r) (boxFrom c) hn ⟨hc.1, hc.2, hc.1, hc.2⟩
    obtain ⟨_, _, _, _, h5⟩ := box_fold (c :: r) (boxFrom c)
    rw [← e] at n1 n2 n3 n4 h5
    have h6 := h5 c (List.mem_cons_self ..)
    refine ⟨⟨hn, n1, fun d hd => (h5 d hd).1, hr, fun d r' hd => ?_, ⟨n1.1, by have := n1.2; omega⟩, n2⟩, n3, n4, fun _ => ⟨by omega, by omega⟩⟩
    have hd' : d ∈ c :: r := by rw [hd]; exact List.mem_cons_self ..
    exact ⟨(h5 d hd').2.1, fun _ => (h5 d hd').1⟩
/-! ### The whole text -/
/-- The head line. -/
def headT (w h : Nat) (t : List UInt8) : List UInt8 := [120, 32, 61, 32] ++ Lib.decDigits w ++ [44, 32, 121, 32, 61, 32] ++ Lib.decDigits h ++ [44, 32, 114, 117, 108, 101, 32, 61, 32] ++ t ++ [10]
def wideN (s : List (Int × Int)) : Nat := if s = [] then 0 else ((boxF s).x1 - (boxF s).x0 + 1).toNat
def highN (s : List (Int × Int)) : Nat := if s = [] then 0 else ((boxF s).y1 - (boxF s).y0 + 1).toNat
def bodyT (s : List (Int × Int)) (t : List UInt8) : List UInt8 := (layF (headT (wideN s) (highN s) t, 0) (pcs (boxF s).x0 s.length (boxF s).x0 (boxF s).y0 s ++ [[33]])).1 ++ [10]
/-- What EncodeCells answers: the text, or the error. -/
def encF (zs : List (Int × Int)) (b l : Int) : List UInt8 × Int :=
  if (tidyF zs).2 ≠ 0 then ([], (tidyF zs).2) else if goodF b l = false then ([], 3) else (bodyT (tidyF zs).1 (textF b l), 0)
theorem near_of {zs xs : List (Int × Int)} (h : (xs, 0) = tidyF zs) : ∀ c ∈ xs, Near c.1 ∧ Near c.2 := by
  intro c hc
  unfold tidyF at h
  split at h
  · simp at h
  · split at h
    · simp at h
    · next h2 =>
      simp only [Prod.mk.injEq, and_true] at h
      subst h
      have hm : c ∈ zs := (mem_sortF zs c).1 hc
      have hf : farC c = false := by
        rw [Bool.eq_false_iff]; intro hf
        exact h2 (List.any_eq_true.2 ⟨c, hm, hf⟩)
      simp only [farC, farF, Bool.or_eq_false_iff, decide_eq_false_iff_not] at hf
      unfold Near
      omega
end Go.Proofs.YtdmamecfmfhlmaaDoor
