/-
  Which cells live next: plain lists; Count and Box of what From makes: plain; made where its list is refused.
-/
import Derived.Test.YtdmamecfmfhlmaaPlaneMath
import Derived.Test.YtdmamecfmfhlmaaZQuadReadsQBox
import Derived.Test.YtdmamecfmfhlmaaZQuadReadsQFromMath
import Derived.Test.YtdmamecfmfhlmaaZQuadReadsQMade
namespace Go.Proofs.Ytdmamecfmfhlmaa
set_option maxRecDepth 100000

theorem perm_of_nodup : ∀ {l m : List (Int × Int)}, l.Nodup → m.Nodup → (∀ c, c ∈ l ↔ c ∈ m) → l.Perm m
  | [], m, _, _, h => by
    have : m = [] := List.eq_nil_iff_forall_not_mem.2 fun c hc => by have := (h c).2 hc; cases this
    subst this
    exact .refl _
  | a :: l, m, hl, hm, h => by
    have h1 := List.nodup_cons.1 hl
    have ha : a ∈ m := (h a).1 (List.mem_cons_self ..)
    have hp : m.Perm (a :: m.erase a) := List.perm_cons_erase ha
    refine .trans (.cons a (perm_of_nodup h1.2 (hm.erase a) fun c => ?_)) hp.symm
    rw [hm.mem_erase_iff]
    constructor
    · intro hc
      refine ⟨fun e => h1.1 (by rw [← e]; exact hc), (h c).1 (List.mem_cons_of_mem _ hc)⟩
    · rintro ⟨hne, hc⟩
      rcases List.mem_cons.1 ((h c).2 hc) with e | hc'
      · exact absurd e hne
      · exact hc'
/-- What is no list's twice, is tidied alike, whatever its order. -/
theorem tidyF_perm {l m : List (Int × Int)} (h : l.Perm m) : tidyF l = tidyF m := by
  have h1 : l.length = m.length := h.length_eq
  have h2 : l.any farC = m.any farC := by
    rw [Bool.eq_iff_iff, List.any_eq_true, List.any_eq_true]
    constructor
    · rintro ⟨c, hc, hf⟩; exact ⟨c, h.mem_iff.1 hc, hf⟩
    · rintro ⟨c, hc, hf⟩; exact ⟨c, h.mem_iff.2 hc, hf⟩
  have h3 : sortF l = sortF m := sortF_eq (rising_sortF m) fun x => by rw [mem_sortF]; exact h.mem_iff.symm
  unfold tidyF
  rw [h1, h2, h3]
theorem tidyF_same {l m : List (Int × Int)} (hl : l.Nodup) (hm : m.Nodup) (h : ∀ c, c ∈ l ↔ c ∈ m) : tidyF l = tidyF m := tidyF_perm (perm_of_nodup hl hm h)
theorem rising_nodup {l : List (Int × Int)} (h : Rising l) : l.Nodup := h.imp fun {a b} hab e => by subst e; rw [cellLt_irrefl] at hab; cases hab

/-- The nine cells at a cell, row by row. -/
def nineF (c : Int × Int) : List (Int × Int) := [(c.1 - 1, c.2 - 1), (c.1, c.2 - 1), (c.1 + 1, c.2 - 1), (c.1 - 1, c.2), (c.1, c.2), (c.1 + 1, c.2), (c.1 - 1, c.2 + 1), (c.1, c.2 + 1), (c.1 + 1, c.2 + 1)]
def eightF (c : Int × Int) : List (Int × Int) := [(c.1 - 1, c.2 - 1), (c.1, c.2 - 1), (c.1 + 1, c.2 - 1), (c.1 - 1, c.2), (c.1 + 1, c.2), (c.1 - 1, c.2 + 1), (c.1, c.2 + 1), (c.1 + 1, c.2 + 1)]
/-- How many of its eight neighbours live. -/
def nearF (s : List (Int × Int)) (d : Int × Int) : Nat := ((eightF d).filter fun c => decide (c ∈ s)).length
end Go.Proofs.Ytdmamecfmfhlmaa
namespace Go.Proofs.Ytdmamecfmfhlmaa
set_option maxRecDepth 100000

theorem cnt_build_eq {n : Nat} {x y : Int} {l : CellL} (hn : l.Nodup) (h : ∀ c ∈ l, x ≤ c.1 ∧ c.1 < x + 2 ^ n ∧ y ≤ c.2 ∧ c.2 < y + 2 ^ n) : cnt (buildT n x y l) = l.length := by
  induction n generalizing x y l with
  | zero =>
    match l, hn, h with
    | [], _, _ => rfl
    | [c], _, _ => rfl
    | c :: d :: l, hn, h =>
      have e : (2 : Int) ^ 0 = 1 := rfl
      rw [e] at h
      have h1 := h c (by simp)
      have h2 := h d (by simp)
      have e2 : c = d := Prod.ext (by omega) (by omega)
      subst e2
      simp at hn
  | succ n ih =>
    have e : (2 : Int) ^ (n + 1) = 2 ^ n + 2 ^ n := by rw [Int.pow_succ]; omega
    rw [e] at h
    unfold buildT
    split
    · next hl =>
      rw [show cnt (emptyT (n + 1)) = 0 from (cnt_zero (full_empty (n + 1))).2 rfl, List.isEmpty_iff.1 hl]; rfl
    · have q : ∀ k (c : Int × Int), c ∈ partOf (x + 2 ^ n) (y + 2 ^ n) k l → c ∈ l ∧ quadOf (x + 2 ^ n) (y + 2 ^ n) c = k := fun k c hc => by
        unfold partOf at hc
        rw [List.mem_filter, decide_eq_true_eq] at hc
        exact hc
      have hnn : ∀ k, (partOf (x + 2 ^ n) (y + 2 ^ n) k l).Nodup := fun k => hn.filter _
      have i0 := ih (x := x) (y := y) (hnn 0) (fun c hc => by
        obtain ⟨h1, h2⟩ := q 0 c hc
        have := h c h1
        unfold quadOf at h2
        split at h2 <;> split at h2 <;> omega)
      have i1 := ih (x := x + 2 ^ n) (y := y) (hnn 1) (fun c hc => by
        obtain ⟨h1, h2⟩ := q 1 c hc
        have := h c h1
        unfold quadOf at h2
        split at h2 <;> split at h2 <;> omega)
      have i2 := ih (x := x) (y := y + 2 ^ n) (hnn 2) (fun c hc => by
        obtain ⟨h1, h2⟩ := q 2 c hc
        have := h c h1
        unfold quadOf at h2
        split at h2 <;> split at h2 <;> omega)
      have i3 := ih (x := x + 2 ^ n) (y := y + 2 ^ n) (hnn 3) (fun c hc => by
        obtain ⟨h1, h2⟩ := q 3 c hc
        have := h c h1
        unfold quadOf at h2
        split at h2 <;> split at h2 <;> omega)
      have hs := parts_sum (x + 2 ^ n) (y + 2 ^ n) l
      show cnt _ + cnt _ + cnt _ + cnt _ = _
      omega
theorem box_at : ∀ (l : List (Int × Int)) (b : BoxD), let t := l.foldl boxStep b
    (t.x0 = b.x0 ∨ ∃ c ∈ l, t.x0 = c.1) ∧ (t.y0 = b.y0 ∨ ∃ c ∈ l, t.y0 = c.2) ∧ (t.x1 = b.x1 ∨ ∃ c ∈ l, t.x1 = c.1) ∧ (t.y1 = b.y1 ∨ ∃ c ∈ l, t.y1 = c.2)
  | [], _ => ⟨.inl rfl, .inl rfl, .inl rfl, .inl rfl⟩
  | d :: r, b => by
    obtain ⟨h1, h2, h3, h4⟩ := box_at r (boxStep b d)
    simp only [List.foldl_cons]
    have e : ((boxStep b d).x0 = b.x0 ∨ (boxStep b d).x0 = d.1) ∧ ((boxStep b d).y0 = b.y0 ∨ (boxStep b d).y0 = d.2) ∧ ((boxStep b d).x1 = b.x1 ∨ (boxStep b d).x1 = d.1) ∧ ((boxStep b d).y1 = b.y1 ∨ (boxStep b d).y1 = d.2) := by
      simp only [boxStep]
      omega
    obtain ⟨e1, e2, e3, e4⟩ := e
    have lift : ∀ {u v w : Int} {f : Int × Int → Int}, (u = v ∨ ∃ c ∈ r, u = f c) → (v = w ∨ v = f d) → (u = w ∨ ∃ c ∈ d :: r, u = f c) := fun {u v w f} h k => by
      rcases h with h | ⟨c, hc, h⟩
      · rcases k with k | k
        · exact .inl (h.trans k)
        · exact .inr ⟨d, List.mem_cons_self .., h.trans k⟩
      · exact .inr ⟨c, List.mem_cons_of_mem _ hc, h⟩
    exact ⟨lift (f := fun c => c.1) h1 e1, lift (f := fun c => c.2) h2 e2, lift (f := fun c => c.1) h3 e3, lift (f := fun c => c.2) h4 e4⟩
theorem box_all : ∀ (l : List (Int × Int)) (b : BoxD), let t := l.foldl boxStep b
    t.x0 ≤ b.x0 ∧ t.y0 ≤ b.y0 ∧ b.x1 ≤ t.x1 ∧ b.y1 ≤ t.y1 ∧ (∀ c ∈ l, t.x0 ≤ c.1 ∧ t.y0 ≤ c.2 ∧ c.1 ≤ t.x1 ∧ c.2 ≤ t.y1)
  | [], b => ⟨Int.le_refl _, Int.le_refl _, Int.le_refl _, Int.le_refl _, fun c hc => by cases hc⟩
  | d :: r, b => by
    obtain ⟨h1, h2, h3, h4, h5⟩ := box_all r (boxStep b d)
    simp only [List.foldl_cons]
    have e : (boxStep b d).x0 ≤ b.x0 ∧ (boxStep b d).x0 ≤ d.1 ∧ (boxStep b d).y0 ≤ b.y0 ∧ (boxStep b d).y0 ≤ d.2 ∧ b.x1 ≤ (boxStep b d).x1 ∧ d.1 ≤ (boxStep b d).x1 ∧ b.y1 ≤ (boxStep b d).y1 ∧ d.2 ≤ (boxStep b d).y1 := by
      simp only [boxStep]
      omega
    refine ⟨by omega, by omega, by omega, by omega, fun c hc => ?_⟩
    rcases List.mem_cons.1 hc with rfl | hc
    · exact ⟨by omega, by omega, by omega, by omega⟩
    · exact h5 c hc
/-- The box of a list is the least one. -/
theorem boxF_is {s : CellL} (h : s ≠ []) : (∀ z ∈ s, (boxF s).x0 ≤ z.1 ∧ (boxF s).y0 ≤ z.2 ∧ z.1 ≤ (boxF s).x1 ∧ z.2 ≤ (boxF s).y1) ∧ (∃ z ∈ s, (boxF s).x0 = z.1) ∧ (∃ z ∈ s, (boxF s).y0 = z.2) ∧ (∃ z ∈ s, (boxF s).x1 = z.1) ∧ ∃ z ∈ s, (boxF s).y1 = z.2 := by
  match s, h with
  | c :: r, _ =>
    have e : boxF (c :: r) = (c :: r).foldl boxStep (boxFrom c) := by
      show ((c :: r).take (c :: r).length).foldl boxStep (boxFrom c) = _
      rw [List.take_length]
    obtain ⟨_, _, _, _, h5⟩ := box_all (c :: r) (boxFrom c)
    obtain ⟨g1, g2, g3, g4⟩ := box_at (c :: r) (boxFrom c)
    rw [e]
    refine ⟨fun z hz => h5 z hz, ?_, ?_, ?_, ?_⟩
    · rcases g1 with g | g
      · exact ⟨c, List.mem_cons_self .., g⟩
      · exact g
    · rcases g2 with g | g
      · exact ⟨c, List.mem_cons_self .., g⟩
      · exact g
    · rcases g3 with g | g
      · exact ⟨c, List.mem_cons_self .., g⟩
      · exact g
    · rcases g4 with g | g
      · exact ⟨c, List.mem_cons_self .., g⟩
      · exact g
/-- What Box tells is the least box of the cells. -/
theorem boxV_is {n : Nat} {T : Tree} {s : CellL} (hf : Full (n + 1) T) (hm : ∀ z, z ∈ cellsT (n + 1) T (-(2 ^ n)) (-(2 ^ n)) ↔ z ∈ s) : emB T = s.isEmpty ∧ boxV (n + 1) T = .agg (if s = [] then #[.int .i64 0, .int .i64 0, .int .i64 0, .int .i64 0] else encBox (boxF s)) := by
  have hp : ((2 ^ n : Nat) : Int) = 2 ^ n := by rw [Int.natCast_pow]; rfl
  have he2 : (2 : Int) ^ (n + 1) = 2 ^ n + 2 ^ n := by rw [Int.pow_succ]; omega
  by_cases hs : s = []
  · subst hs
    have he : emB T = true := by
      cases he : emB T with
      | true => rfl
      | false =>
        exact absurd (List.eq_nil_iff_forall_not_mem.2 fun z hz => by have := (hm z).1 hz; cases this) (cells_some hf he (-(2 ^ n)) (-(2 ^ n)))
    refine ⟨he, ?_⟩
    rw [if_pos rfl]
    unfold boxV
    rw [if_pos he]
  · have he : emB T = false := by
      cases he : emB T with
      | false => rfl
      | true =>
        have h0 := cells_empty hf he (-(2 ^ n)) (-(2 ^ n))
        exact absurd (List.eq_nil_iff_forall_not_mem.2 fun z hz => by have := (hm z).2 hz; rw [h0] at this; cases this) hs
    refine ⟨by rw [he]; cases s with | nil => exact absurd rfl hs | cons c r => rfl, ?_⟩
    rw [if_neg hs]
    unfold boxV
    rw [if_neg (by rw [he]; decide), show n + 1 - 1 = n from rfl, hp]
    obtain ⟨a0, z0, b0, c0⟩ := edge_spec (s := 0) (by omega) (-(2 ^ n)) (-(2 ^ n)) hf he
    obtain ⟨a1, z1, b1, c1⟩ := edge_spec (s := 1) (by omega) (-(2 ^ n)) (-(2 ^ n)) hf he
    obtain ⟨a2, z2, b2, c2⟩ := edge_spec (s := 2) (by omega) (-(2 ^ n)) (-(2 ^ n)) hf he
    obtain ⟨a3, z3, b3, c3⟩ := edge_spec (s := 3) (by omega) (-(2 ^ n)) (-(2 ^ n)) hf he
    simp only [distS] at a0 a1 a2 a3 c0 c1 c2 c3
    obtain ⟨g, ⟨u0, v0, e0⟩, ⟨u1, v1, e1⟩, ⟨u2, v2, e2⟩, u3, v3, e3⟩ := boxF_is hs
    have q0 : (edgeT (n + 1) 2 T : Int) - 2 ^ n = (boxF s).x0 := by
      have h1 := a2 u0 ((hm u0).2 v0)
      have h2 := (g z2 ((hm z2).1 b2)).1
      omega
    have q1 : (edgeT (n + 1) 0 T : Int) - 2 ^ n = (boxF s).y0 := by
      have h1 := a0 u1 ((hm u1).2 v1)
      have h2 := (g z0 ((hm z0).1 b0)).2.1
      omega
    have q2 : (2 : Int) ^ n - 1 - edgeT (n + 1) 3 T = (boxF s).x1 := by
      have h1 := a3 u2 ((hm u2).2 v2)
      have h2 := (g z3 ((hm z3).1 b3)).2.2.1
      omega
    have q3 : (2 : Int) ^ n - 1 - edgeT (n + 1) 1 T = (boxF s).y1 := by
      have h1 := a1 u3 ((hm u3).2 v3)
      have h2 := (g z1 ((hm z1).1 b1)).2.2.2
      omega
    rw [q0, q1, q2, q3]
    rfl
end Go.Proofs.Ytdmamecfmfhlmaa
namespace Go.Proofs.Ytdmamecfmfhlmaa
set_option maxRecDepth 100000
open Go.RowKit

set_option maxHeartbeats 2000000 in
theorem made_bad (zs : CellL) (a : Option Addr) (c : Nat) (w : World) (hs : Sl w 2 16 a zs.length c (zs.flatMap encCell)) (hbad : (tidyF zs).2 ≠ 0) (hlen : zs.length ≤ 300) :
    Calls Try.prog 10 #[.slice a zs.length c] w fun e w' => (∃ b : Nat, e = .returned (.tuple #[.pointer (some ⟨b, 0, none⟩), .int .i64 0, .int .i64 (tidyF zs).2, .bool true])) ∧ Below w.heap.size w w' := by
  have HN := Lib.hid (arenaNew_any 200000 w (by omega))
  rw [show ((200000 : Nat) : Int) = (200000 : Int) from rfl] at HN
  have HS := Lib.hid hs
  have HBAD := Lib.hid hbad
  obtain ⟨n, hn⟩ : ∃ n, n = zs.length := ⟨_, rfl⟩
  obtain ⟨er, her⟩ : ∃ er, er = (tidyF zs).2 := ⟨_, rfl⟩
  rw [← hn, ← her]
  have HL := Lib.hid hn
  have HER := Lib.hid her
  clear hs hbad hn her
  go_enter Try.func10, Try.ntmps10
  go_wp2_with fail
  with_reducible refine HN.out.mono ?_
  rintro e w1 ⟨arr, rfl, hb, h0, h1, h2, hsz, ha⟩
  have HB := Lib.hid hb
  have HCE := Lib.hid (cells_any zs a c w1 (HS.out.below (by omega) hb))
  unfold Cells at HCE
  rw [← HL.out] at HCE
  clear hb h0 h1 h2 hsz ha
  go_wp2_with fail
  with_reducible refine HCE.out.mono ?_
  rintro e w2 ⟨v, rfl, hb2, hown⟩
  obtain ⟨a2, c2, rfl, hsl⟩ := sl_of_own (bytes := 16) hown (by have := HL.out; omega)
  rw [HL.out] at hsl
  have HF := Lib.hid (from_bad (w.heap.size + 2) 3 zs a2 c2 w2 hsl HBAD.out)
  rw [← HL.out, ← HER.out, show ((3 : Nat) : Int) = (3 : Int) from rfl] at HF
  have HB2 := Lib.hid (HB.out.trans (hb2.mono HB.out.size))
  clear hb2 hown hsl
  go_wp2_with fail
  with_reducible refine HF.out.mono ?_
  rintro e w3 ⟨rfl, hb3⟩
  have HB3 := Lib.hid (HB2.out.trans (hb3.mono HB2.out.size))
  clear hb3
  go_wp2_with fail
  refine bodyPost_ret (v := .tuple #[.pointer (some ⟨w.heap.size + 2, 0, none⟩), .int .i64 0, .int .i64 er, .bool true]) (by simp [results, Try.results10, go_sem]) rfl ?_
  exact ⟨⟨_, rfl⟩, HB3.out⟩
theorem sl_take {w : World} {a : Option Addr} {cap : Nat} {zs : CellL} (h : Sl w 2 16 a zs.length cap (zs.flatMap encCell)) (m : Nat) : Sl w 2 16 a (zs.take m).length cap ((zs.take m).flatMap encCell) := by
  have hl : (zs.take m).length ≤ zs.length := by rw [List.length_take]; omega
  refine ⟨flat_length (k := 2) (enc := encCell) (fun _ => rfl) _, Nat.le_trans hl h.room, h.fits, h.nil, Nat.le_trans (Nat.mul_le_mul_right _ hl) h.wide, fun hp => ?_⟩
  obtain ⟨b, o, e, hr⟩ := h.row (by omega)
  refine ⟨b, o, e, fun j u hu => hr j u ?_⟩
  have hsplit : zs.flatMap encCell = (zs.take m).flatMap encCell ++ (zs.drop m).flatMap encCell := by rw [← List.flatMap_append, List.take_append_drop]
  rw [hsplit, List.getElem?_append_left (List.getElem?_eq_some_iff.1 hu).1]
  exact hu
end Go.Proofs.Ytdmamecfmfhlmaa
