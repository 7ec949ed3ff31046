/-
  What an answer is told as; numbers' texts.
-/
import Derived.Test.YtdmamecfmfhlmaaDoorRefEncode
import Derived.Test.YtdmamecfmfhlmaaDoorBigNeg
import Derived.Test.YtdmamecfmfhlmaaDoorKinds4
namespace Go.Proofs.YtdmamecfmfhlmaaDoor
set_option maxRecDepth 100000
open Go.RowKit

/-- A number's text. -/
def numZ (n : Int) : ByteArray := txt (Lib.itoa n)
theorem itoa_len {n : Int} (h : I64 n) : (Lib.itoa n).length ≤ 65 := by
  unfold I64 at h
  unfold Lib.itoa
  split
  · rw [List.length_cons]
    have := dec_len (n := n.natAbs) (by omega)
    omega
  · have := dec_len (n := n.toNat) (by omega)
    omega
theorem numZ_size {n : Int} (h : I64 n) : (numZ n).size ≤ 65 := by rw [numZ, txt_size]; exact itoa_len h
theorem itoaZ_any (B : Nat) (n : Int) (w : World) (hn : I64 n) (ht : Tab B w) :
    Calls Tryd.prog 21 #[.int .i64 n] w fun e w' => e = .returned (.string (numZ n)) ∧ Below w.heap.size w w' := by
  have h := Any.strconv_Itoa lit n hn.1 hn.2 w ht.here
  change Calls Tryd.prog 21 _ _ _ at h
  refine h.mono ?_
  rintro e w' ⟨rfl, k, os, rfl⟩
  exact ⟨rfl, Lib.below_grow _ _ (Nat.le_refl _) _ _⟩
theorem decimalZ_any (n : Int) (w : World) (hn : I64 n) :
    Calls Tryd.prog 36 #[.int .i64 n] w fun e w' => e = .returned (.string (numZ n)) ∧ Below w.heap.size w w' := by
  unfold I64 at hn
  by_cases h : n < 0
  · have h1 := decimal_neg n.natAbs w (by omega) (by omega)
    rw [show -((n.natAbs : Nat) : Int) = n by omega] at h1
    have e : numZ n = txt (45 :: Lib.decDigits n.natAbs) := by rw [numZ, Lib.itoa, if_pos h]
    rw [e]; exact h1
  · obtain ⟨m, rfl⟩ := Int.eq_ofNat_of_zero_le (show 0 ≤ n by omega)
    have h1 := decimal_any m w (by omega)
    have e : numZ (m : Int) = txt (Lib.decDigits m) := by rw [numZ, Lib.itoa, if_neg h, Int.toNat_natCast]
    rw [e]; exact h1
theorem box_i64 : ∀ (l : List (Int × Int)) (b : BoxD), (∀ c ∈ l, GoodCell c) → I64 b.x0 ∧ I64 b.y0 ∧ I64 b.x1 ∧ I64 b.y1 → let t := l.foldl boxStep b
    I64 t.x0 ∧ I64 t.y0 ∧ I64 t.x1 ∧ I64 t.y1
  | [], _, _, h => h
  | d :: r, b, hl, h => by
    refine box_i64 r (boxStep b d) (fun c hc => hl c (List.mem_cons_of_mem _ hc)) ?_
    have hd := hl d (List.mem_cons_self ..)
    unfold GoodCell at hd
    unfold I64 at *
    simp only [boxStep]
    omega
theorem boxF_i64 {l : List (Int × Int)} (h : ∀ c ∈ l, GoodCell c) : I64 (boxF l).x0 ∧ I64 (boxF l).y0 ∧ I64 (boxF l).x1 ∧ I64 (boxF l).y1 := by
  match l with
  | [] => simp only [boxF, boxTo, I64]; decide
  | c :: r =>
    have e : boxF (c :: r) = (c :: r).foldl boxStep (boxFrom c) := by simp [boxF, boxTo]
    have hc := h c (List.mem_cons_self ..)
    rw [e]
    exact box_i64 (c :: r) (boxFrom c) h ⟨hc.1, hc.2, hc.1, hc.2⟩
/-- What Tell answers. -/
def tellF (verb : Int) (q : AnsD) (zs : List (Int × Int)) : ByteArray × Int :=
  if verb < 0 ∨ 11 ≤ verb then (⟨#[]⟩, 4)
  else if q.code ≠ 0 then (⟨#[110, 111, 32]⟩ ++ numZ q.code, 0)
  else if verb = 3 then (if (encF zs q.b q.l).2 ≠ 0 then (⟨#[]⟩, (encF zs q.b q.l).2)
    else if zs.length = 0 then (⟨#[110, 111, 110, 101, 10]⟩ ++ txt (encF zs q.b q.l).1, 0)
    else (⟨#[97, 116, 32]⟩ ++ numZ (boxF zs).x0 ++ ⟨#[32]⟩ ++ numZ (boxF zs).y0 ++ ⟨#[10]⟩ ++ txt (encF zs q.b q.l).1, 0))
  else if verb = 5 ∨ verb = 10 then (⟨#[99, 111, 117, 110, 116, 32]⟩ ++ numZ q.n, 0)
  else if verb = 9 then (⟨#[107, 101, 121, 32]⟩ ++ q.key, 0)
  else if verb = 6 then (if q.n = 0 then (⟨#[110, 111, 110, 101]⟩, 0)
    else (⟨#[98, 111, 120, 32]⟩ ++ numZ q.x0 ++ ⟨#[32]⟩ ++ numZ q.y0 ++ ⟨#[32]⟩ ++ numZ q.x1 ++ ⟨#[32]⟩ ++ numZ q.y1, 0))
  else (⟨#[111, 107]⟩, 0)
theorem layF_len : ∀ (ps : List (List UInt8)) (st : List UInt8 × Nat), (∀ p ∈ ps, p.length ≤ 65) → (layF st ps).1.length ≤ st.1.length + 66 * ps.length
  | [], st, _ => by simp [layF]
  | p :: ps, st, h => by
    have h1 := layP_len st p
    have h2 := h p (List.mem_cons_self ..)
    have h3 := layF_len ps (layP st p) (fun q hq => h q (List.mem_cons_of_mem _ hq))
    have e : layF st (p :: ps) = layF (layP st p) ps := rfl
    rw [e, List.length_cons]
    omega
theorem pcs_small (X0 : Int) : ∀ (f : Nat) (x y : Int) (s : List (Int × Int)), Way X0 x y s → s.length ≤ f → f ≤ 4096 → ∀ p ∈ pcs X0 f x y s, p.length ≤ 65
  | 0, _, _, _, _, _, _, p, hp => by simp [pcs] at hp
  | f + 1, _, _, [], _, _, _, p, hp => by simp [pcs] at hp
  | f + 1, x, y, c :: r, hw, hl, hf, p, hp => by
    obtain ⟨⟨n1, n2⟩, n3, n4⟩ := hw.near c (List.mem_cons_self ..)
    obtain ⟨x1, x2⟩ := hw.nx
    obtain ⟨y1, y2⟩ := hw.ny
    obtain ⟨e1, e2⟩ := hw.edge
    obtain ⟨p1, p2⟩ := runN_pos c r
    have hx : (c.1 - (if y < c.2 then X0 else x)).toNat < 9223372036854775808 := by split <;> omega
    rw [pcs] at hp
    simp only [List.mem_append] at hp
    rcases hp with hp | hp | hp | hp
    · exact tok_len 36 (by omega) p hp
    · exact tok_len 98 hx p hp
    · exact tok_len 111 (by omega) p hp
    · exact pcs_small X0 f _ _ _ (hw.next (by omega)) (by rw [List.length_drop]; simp only [List.length_cons] at hl ⊢; omega) (by omega) p hp
theorem encF_len (zs : List (Int × Int)) (b l : Int) : (encF zs b l).1.length ≤ 1000000 := by
  unfold encF
  split
  · simp
  · next h0 =>
    split
    · simp
    · obtain ⟨⟨r, er⟩, hR⟩ : ∃ R, R = tidyF zs := ⟨_, rfl⟩
      rw [← hR] at h0 ⊢
      simp only [ne_eq, Decidable.not_not] at h0
      subst h0
      have hr : r.length ≤ 4096 := by have := tidyF_length zs; rw [← hR] at this; exact this
      obtain ⟨hw, _, _, _⟩ := Way.start (near_of hR) (tidyF_rise hR)
      obtain ⟨s1, s2, _⟩ := side_near (near_of hR) (tidyF_rise hR)
      have d1 := dec_len (show wideN r < 18446744073709551616 by omega)
      have d2 := dec_len (show highN r < 18446744073709551616 by omega)
      have d3 := textF_len b l
      have h1 := layF_len (pcs (boxF r).x0 r.length (boxF r).x0 (boxF r).y0 r ++ [[33]]) (headT (wideN r) (highN r) (textF b l), 0) (fun p hp => by
        rcases List.mem_append.1 hp with hp | hp
        · exact pcs_small _ _ _ _ _ hw (Nat.le_refl _) hr p hp
        · rw [List.mem_singleton.1 hp]; decide)
      have h2 := pcs_count (boxF r).x0 r.length (boxF r).x0 (boxF r).y0 r
      have h3 : (headT (wideN r) (highN r) (textF b l)).length ≤ 200 := by simp [headT]; omega
      simp only [bodyT, List.length_append, List.length_cons, List.length_nil] at h1 ⊢
      omega
end Go.Proofs.YtdmamecfmfhlmaaDoor
