/-
  lifelodgeref.merge, Union, Minus.
-/
import Derived.Test.YtdmamecfmfhlmaaZQuadPutsPuts
import Derived.Test.YtdmamecfmfhlmaaZQuadPuts49
import Derived.Test.YtdmamecfmfhlmaaZQuadPutsMapCells
import Derived.Test.YtdmamecfmfhlmaaZQuadPuts47
import Derived.Test.YtdmamecfmfhlmaaZQuadPutsTidies
import Derived.Test.YtdmamecfmfhlmaaZQuadPuts46
namespace Go.Proofs.Ytdmamecfmfhlmaa
set_option maxRecDepth 100000
open Go.RowKit

/-- Function K answers what keep says. -/
def Keeper (K : Nat) (keep : Bool → Bool → Bool) : Prop := ∀ (a b : Bool) (W : World), Calls Try.prog K #[.bool a, .bool b] W fun e w' => e = .returned (.bool (keep a b)) ∧ W = w'
/-- A list read, from its head on. -/
def Cut (w : World) (B : Nat) (v : Value) (X : List (Int × Int)) : Prop := ∃ a c, v = .slice a X.length c ∧ Sl w 2 16 a X.length c (X.flatMap encCell) ∧ ∀ b o, a = some ⟨b, o, none⟩ → b < B
theorem Cut.tail {w : World} {B : Nat} {b o c : Nat} {x : Int × Int} {X : List (Int × Int)} (h : Sl w 2 16 (some ⟨b, o, none⟩) (X.length + 1) c ((x :: X).flatMap encCell)) (hb : b < B) :
    Cut w B (.slice (if c = 1 then some ⟨b, o, none⟩ else some ⟨b, o + 2, none⟩) X.length (c - 1)) X := by
  have hroom := h.room
  have hfits := h.fits
  have hwide := h.wide
  by_cases hc : c = 1
  · rw [if_pos hc]
    have h0 : X = [] := List.eq_nil_of_length_eq_zero (by omega)
    subst h0
    exact ⟨_, _, rfl, ⟨rfl, by simp, by omega, (fun h => by cases h), by simp, fun hn => by simp at hn⟩, fun b' o' e => by
      simp only [Option.some.injEq, Addr.mk.injEq, and_true] at e
      omega⟩
  rw [if_neg hc]
  refine ⟨_, _, rfl, ⟨?_, ?_, ?_, (fun h => by cases h), ?_, fun hn => ⟨b, o + 2, rfl, fun j u hu => ?_⟩⟩, fun b' o' e => ?_⟩
  · rw [flat_len]
  · omega
  · omega
  · omega
  · obtain ⟨b', o', e, hr⟩ := h.row (by omega)
    simp only [Option.some.injEq, Addr.mk.injEq, and_true] at e
    obtain ⟨rfl, rfl⟩ := e
    have := hr (j + 2) u (by simpa [encCell] using hu)
    rwa [show o + (j + 2) = o + 2 + j by omega] at this
  · simp only [Option.some.injEq, Addr.mk.injEq, and_true] at e
    omega
theorem Cut.keeps {w w' : World} {B : Nat} {v : Value} {X : List (Int × Int)} (h : Cut w B v X) (hk : Keeps (fun i => B ≤ i) w w') : Cut w' B v X := by
  obtain ⟨a, c, e, hs, hb⟩ := h
  refine ⟨a, c, e, ⟨hs.len, hs.room, hs.fits, hs.nil, hs.wide, fun hn => ?_⟩, hb⟩
  obtain ⟨b, o, ea, hr⟩ := hs.row hn
  have hlt := hr.lt (by rw [hs.len]; omega)
  have hbB := hb b o ea
  exact ⟨b, o, ea, fun j u hu => by rw [hk.cell (p := ⟨b, o + j, none⟩) hlt (by simp; omega)]; exact hr j u hu⟩
theorem Cut.below {w w' : World} {B : Nat} {v : Value} {X : List (Int × Int)} (h : Cut w B v X) (hk : Below w.heap.size w w') : Cut w' B v X := h.keeps (Keeps.of_below hk)
theorem Cut.of_tight {w : World} {base : Nat} {v : Value} {X : List (Int × Int)} (h : Tight base w v X) (hb : X.length * 16 ≤ 140737488351232) : Cut w w.heap.size v X := by
  obtain ⟨a, c, rfl, _, _⟩ := h.form
  refine ⟨a, c, rfl, h.sl hb, fun b o e => ?_⟩
  rcases h with ⟨h, _⟩ | ⟨g, cap, sp, hv, hh, _⟩
  · simp only [Value.slice.injEq] at h
    rw [h.1] at e; cases e
  · simp only [Value.slice.injEq, true_and] at hv
    rw [hv.1] at e
    simp only [Option.some.injEq, Addr.mk.injEq, and_true] at e
    rw [← e.1]; exact hh.lt
/-- The head of a list that is read. -/
theorem Cut.head {w : World} {B : Nat} {v : Value} {x : Int × Int} {X : List (Int × Int)} (h : Cut w B v (x :: X)) :
    ∃ b o c, v = .slice (some ⟨b, o, none⟩) (X.length + 1) c ∧ X.length + 1 ≤ c ∧ w.cell? ⟨b, o, none⟩ = some (.int .i64 x.1) ∧ w.cell? ⟨b, o + 1, none⟩ = some (.int .i64 x.2) ∧ b < w.heap.size ∧ b < B ∧ Cut w B (.slice (if c = 1 then some ⟨b, o, none⟩ else some ⟨b, o + 2, none⟩) X.length (c - 1)) X := by
  obtain ⟨a, c, rfl, hs, hb⟩ := h
  obtain ⟨b, o, rfl, hr⟩ := hs.row (by simp)
  have hlt := hs.lt (by simp) (by omega)
  refine ⟨b, o, c, rfl, hs.room, ?_, ?_, hlt, hb b o rfl, Cut.tail hs (hb b o rfl)⟩
  · have := hr 0 _ (by simp [encCell]; rfl); exact this
  · have := hr 1 _ (by simp [encCell]; rfl); exact this
def Picked (w : World) (keep : Bool → Bool → Bool) (zs ms : List (Int × Int)) (e : Ending) (w' : World) : Prop :=
  ∃ v, e = .returned (.tuple #[v, .int .i64 (mergeF keep zs ms).2]) ∧ Below w.heap.size w w' ∧ Tight w.heap.size w' v (mergeF keep zs ms).1
theorem pickF_length (keep : Bool → Bool → Bool) : ∀ x y : List (Int × Int), (pickF keep x y).length ≤ x.length + y.length
  | [], [] => by rw [pickF]; simp
  | a :: x, [] => by
    rw [pickF]; have := pickF_length keep x []
    split <;> simp at this ⊢ <;> omega
  | [], b :: y => by
    rw [pickF]; have := pickF_length keep [] y
    split <;> simp at this ⊢ <;> omega
  | a :: x, b :: y => by
    rw [pickF]
    have h1 := pickF_length keep x (b :: y)
    have h2 := pickF_length keep (a :: x) y
    have h3 := pickF_length keep x y
    split
    · split <;> simp at h1 ⊢ <;> omega
    · split
      · split <;> simp at h2 ⊢ <;> omega
      · split <;> simp <;> omega
termination_by x y => x.length + y.length

theorem zeroInt (u : World) : (zeroValue 3).run Try.prog u = .ok (.int .i64 0) u := by kernel_rfl
theorem make_map (W : World) : (Instr.makeMap 123 none).run Try.prog W = .ok (.map (some W.heap.size)) (W.alloc (.map #[] 0)) := rfl
/-- What the map holds: 1 of the first list, 2 of the second one. -/
def cntM (xs ys : List (Int × Int)) (c : Int × Int) : Int := (if c ∈ xs then 1 else 0) + (if c ∈ ys then 2 else 0)
def holdM (xs ys : List (Int × Int)) (c : Int × Int) : Option Value := if c ∈ xs ∨ c ∈ ys then some (.int .i64 (cntM xs ys c)) else none
theorem tidy_good {zs xs : List (Int × Int)} (h : (xs, 0) = tidyF zs) : ∀ c ∈ xs, GoodCell c := by
  obtain ⟨_, hf, ht⟩ := tidyF_ok (l := zs) (by rw [← h])
  rw [ht] at h
  simp only [Prod.mk.injEq, and_true] at h
  intro c hc
  rw [h, mem_sortF] at hc
  have : ¬ farC c = true := fun h' => by
    have := List.any_eq_true.2 ⟨c, hc, h'⟩
    rw [hf] at this; cases this
  simp [farC, farF] at this
  exact ⟨⟨by omega, by omega⟩, ⟨by omega, by omega⟩⟩
theorem holdM_x {xs : List (Int × Int)} {k : Nat} {c : Int × Int} (hc : xs[k]? = some c) (hn : xs.Nodup) : (holdM (xs.take k) [] c).getD (.int .i64 0) = .int .i64 0 ∧ updM (holdM (xs.take k) []) c (.int .i64 1) = holdM (xs.take (k + 1)) [] := by
  have hno : c ∉ xs.take k := fun h => by
    obtain ⟨i, hi⟩ := List.mem_iff_getElem?.1 h
    rw [List.getElem?_take] at hi
    split at hi
    · next hik =>
      have hlt : i < xs.length := (List.getElem?_eq_some_iff.1 hi).1
      have := (List.getElem?_inj (j := k) hlt hn).1 (by rw [hi, hc])
      omega
    · cases hi
  have ht : xs.take (k + 1) = xs.take k ++ [c] := by rw [List.take_add_one, hc]; rfl
  refine ⟨by simp [holdM, hno], ?_⟩
  funext x
  rw [ht]
  by_cases hx : x = c
  · subst hx
    simp [updM, holdM, cntM]
  · rw [updM_other _ _ hx]
    simp [holdM, cntM, hx]
theorem holdM_y {xs ys : List (Int × Int)} {k : Nat} {c : Int × Int} (hc : ys[k]? = some c) (hn : ys.Nodup) : (holdM xs (ys.take k) c).getD (.int .i64 0) = .int .i64 (if c ∈ xs then 1 else 0) ∧ updM (holdM xs (ys.take k)) c (.int .i64 ((if c ∈ xs then 1 else 0) + 2)) = holdM xs (ys.take (k + 1)) := by
  have hno : c ∉ ys.take k := fun h => by
    obtain ⟨i, hi⟩ := List.mem_iff_getElem?.1 h
    rw [List.getElem?_take] at hi
    split at hi
    · next hik =>
      have hlt : i < ys.length := (List.getElem?_eq_some_iff.1 hi).1
      have := (List.getElem?_inj (j := k) hlt hn).1 (by rw [hi, hc])
      omega
    · cases hi
  have ht : ys.take (k + 1) = ys.take k ++ [c] := by rw [List.take_add_one, hc]; rfl
  refine ⟨?_, ?_⟩
  · by_cases hx : c ∈ xs <;> simp [holdM, cntM, hno, hx]
  · funext x
    rw [ht]
    by_cases hx : x = c
    · subst hx
      simp [updM, holdM, cntM]
    · rw [updM_other _ _ hx]
      simp [holdM, cntM, hx]
theorem Cut.get {w : World} {B n c k : Nat} {a : Option Addr} {X : List (Int × Int)} {x : Int × Int} (h : Cut w B (.slice a n c) X) (hk : X[k]? = some x) :
    ∃ b o, a = some ⟨b, o, none⟩ ∧ w.cell? ⟨b, o + k * 2, none⟩ = some (.int .i64 x.1) ∧ w.cell? ⟨b, o + k * 2 + 1, none⟩ = some (.int .i64 x.2) ∧ b < w.heap.size ∧ b < B := by
  obtain ⟨a', c', e, hs, hb⟩ := h
  simp only [Value.slice.injEq] at e
  obtain ⟨rfl, rfl, rfl⟩ := e
  have hlt : k < X.length := (List.getElem?_eq_some_iff.1 hk).1
  obtain ⟨b, o, rfl, hrow⟩ := hs.row (by omega)
  refine ⟨b, o, rfl, hrow _ _ (flat_nth hk).1, ?_, hs.lt (by omega) (by omega), hb b o rfl⟩
  have := hrow _ _ (flat_nth hk).2
  rw [← Nat.add_assoc] at this
  exact this
theorem hold_none : (fun _ => none : Int × Int → Option Value) = holdM [] [] := by funext x; simp [holdM]

def doneM (xs ys : List (Int × Int)) : Nat → List (Int × Int)
  | 0 => []
  | 1 => xs
  | _ => xs ++ ys
theorem gather_snoc (keep : Bool → Bool → Bool) (x y zs : List (Int × Int)) (c : Int × Int) : gatherF keep x y (zs ++ [c]) [] = gatherStep keep x y (gatherF keep x y zs []) c := by
  unfold gatherF
  rw [List.foldl_append]
  rfl
theorem gather_next {keep : Bool → Bool → Bool} {x y D l L : List (Int × Int)} {j : Nat} {c : Int × Int} (h : L = gatherF keep x y (D ++ l.take j) []) (hc : l[j]? = some c) : gatherStep keep x y L c = gatherF keep x y (D ++ l.take (j + 1)) [] := by
  have ht : l.take (j + 1) = l.take j ++ [c] := by rw [List.take_add_one, hc]; rfl
  rw [ht, ← List.append_assoc, gather_snoc, h]
theorem step_yes {keep : Bool → Bool → Bool} {x y L : List (Int × Int)} {c : Int × Int} {p q : Bool} (hp : decide (c ∈ x) = p) (hq : decide (c ∈ y) = q) (h : keep p q = true) : gatherStep keep x y L c = putF c L := by unfold gatherStep; rw [hp, hq, if_pos h]
theorem step_no {keep : Bool → Bool → Bool} {x y L : List (Int × Int)} {c : Int × Int} {p q : Bool} (hp : decide (c ∈ x) = p) (hq : decide (c ∈ y) = q) (h : keep p q = false) : gatherStep keep x y L c = L := by unfold gatherStep; rw [hp, hq, h]; rfl
set_option maxHeartbeats 4000000 in
theorem merge_any (K : Nat) (keep keep' : Bool → Bool → Bool) (hkk : ∀ a b, a = true ∨ b = true → keep a b = keep' a b) (hK : Keeper K keep) (hK3 : K = 50 ∨ K = 51) (zs ms : List (Int × Int)) (a a' : Option Addr) (cap cap' : Nat) (w : World) (hs : Sl w 2 16 a zs.length cap (zs.flatMap encCell)) (hs' : Sl w 2 16 a' ms.length cap' (ms.flatMap encCell)) :
    Calls Try.prog 49 #[.slice a zs.length cap, .slice a' ms.length cap', .func (.func K) #[] #[]] w (Picked w keep' zs ms) := by
  have hmm := make_map
  obtain ⟨⟨xs, e1⟩, hX⟩ : ∃ R, R = tidyF zs := ⟨_, rfl⟩
  obtain ⟨⟨ys, e2⟩, hY⟩ : ∃ R, R = tidyF ms := ⟨_, rfl⟩
  have hxl : xs.length ≤ 4096 := by have := tidyF_length zs; rw [← hX] at this; exact this
  have hyl : ys.length ≤ 4096 := by have := tidyF_length ms; rw [← hY] at this; exact this
  have T1 := fun W (h : Sl W 2 16 a zs.length cap (zs.flatMap encCell)) => refTidy_any zs a cap W h
  have T2 := fun W (h : Sl W 2 16 a' ms.length cap' (ms.flatMap encCell)) => refTidy_any ms a' cap' W h
  unfold Tidied at T1 T2
  rw [← hX] at T1
  rw [← hY] at T2
  have HT1 := Lib.hid T1
  have HT2 := Lib.hid T2
  have HX := Lib.hid hX
  have HY := Lib.hid hY
  have HS := Lib.hid hs
  have HS' := Lib.hid hs'
  obtain ⟨n, hn⟩ : ∃ n, n = zs.length := ⟨_, rfl⟩
  obtain ⟨m, hm⟩ : ∃ m, m = ms.length := ⟨_, rfl⟩
  rw [← hn] at HS HT1 ⊢
  rw [← hm] at HS' HT2 ⊢
  clear T1 T2 hX hY hs hs' hn hm
  go_enter Try.func49, Try.ntmps49
  go_wp2_with fail
  refine (HT1.out _ HS.out).mono ?_
  rintro e w1 ⟨v1, rfl, hb1, ht1⟩
  have hB1 := hb1
  have C1 := Cut.of_tight ht1 (by omega)
  obtain ⟨a1, c1, rfl, _, _⟩ := ht1.form
  clear hb1 ht1
  by_cases he1 : e1 = 0
  · subst he1
    go_wp2_with fail
    refine (HT2.out _ (HS'.out.below (by omega) hB1)).mono ?_
    rintro e w2 ⟨v2, rfl, hb2, ht2⟩
    have hB2 := hB1.trans (hb2.mono hB1.size)
    have C2 := Cut.of_tight ht2 (by omega)
    have C1 := C1.below hb2
    have C1' : Cut w2 w2.heap.size (.slice a1 xs.length c1) xs := by
      obtain ⟨x, y, h1, h2, h3⟩ := C1
      exact ⟨x, y, h1, h2, fun b o e => by have := h3 b o e; have := hb2.size; omega⟩
    obtain ⟨a2, c2, rfl, _, _⟩ := ht2.form
    clear hb2 ht2 C1 hB1
    by_cases he2 : e2 = 0
    · subst he2
      go_wp2_with fail
      have hres : Aside (mergeF keep' zs ms = if 4096 < (pickF keep' xs ys).length then ([], 5) else (pickF keep' xs ys, 0)) := by
        show _ = _
        rw [mergeF, ← HX.out, ← HY.out, if_neg (by simp), if_neg (by simp)]
      have hBo : Below w.heap.size w (w2.alloc (.map #[] 0)) := hB2.alloc hB2.size _
      have M0 := MapOf.new keyV GoodCell w2 0
      have C1 := C1'.below ((Below.refl _ _).alloc (Nat.le_refl _) (.map #[] 0))
      have C2 := C2.below ((Below.refl _ _).alloc (Nat.le_refl _) (.map #[] 0))
      have hws := hB2.size
      obtain ⟨bm, hbm⟩ : ∃ bm, bm = w2.heap.size := ⟨_, rfl⟩
      rw [← hbm] at M0 C1 C2 hws ⊢
      obtain ⟨W, hW⟩ : ∃ W, W = w2.alloc (.map #[] 0) := ⟨_, rfl⟩
      rw [← hW] at M0 C1 C2 hBo ⊢
      have HGX := Lib.hid (tidy_good HX.out)
      have HGY := Lib.hid (tidy_good HY.out)
      have HNX := Lib.hid (rising_nodup (by have := tidyF_rising zs; rw [← HX.out] at this; exact this))
      have HNY := Lib.hid (rising_nodup (by have := tidyF_rising ms; rw [← HY.out] at this; exact this))
      obtain ⟨nx, hnx⟩ : ∃ nx, nx = xs.length := ⟨_, rfl⟩
      obtain ⟨ny, hny⟩ : ∃ ny, ny = ys.length := ⟨_, rfl⟩
      have HLX := Lib.hid hnx
      have HLY := Lib.hid hny
      rw [← hnx] at hxl C1 ⊢
      rw [← hny] at hyl C2 ⊢
      rw [hold_none] at M0
      clear hW hbm C1' hB2 hnx hny HT1 HT2
      go_loopw [40] (fun i wr => ∃ (k q : Nat), i = .int .i64 k ∧ k ≤ nx ∧ MapOf keyV GoodCell wr bm q (holdM (xs.take k) []) ∧ Keeps (fun i => bm ≤ i) W wr) (fun i _ => nx - (intOf i).toNat)
      case atStart => exact ⟨0, 0, rfl, Nat.zero_le _, M0, Keeps.refl _ _⟩
      case round =>
        obtain ⟨k, q, rfl, hk, hM, hKp⟩ := hrel
        by_cases hlt : k < nx
        · obtain ⟨x, hx⟩ : ∃ x, xs[k]? = some x := ⟨xs[k]'(by have := HLX.out; omega), by simp⟩
          obtain ⟨b, o, rfl, d0, d1, hbl, hbB⟩ := (C1.keeps hKp).get hx
          have HXK := Lib.hid hx
          obtain ⟨x1, x2⟩ := x
          dsimp only at d0 d1
          have hg := HGX.out _ (List.mem_of_getElem? hx)
          obtain ⟨q1, q2⟩ := holdM_x hx HNX.out
          have hMV : MapOf keyV GoodCell (wr.alloc (.cells #[.int .i64 x1, .int .i64 x2] 39)).drew bm q (holdM (xs.take k) []) := (hM.alloc _).keep rfl
          have hl := hMV.look cell_keyed Try.underlying123 zeroInt hg
          obtain ⟨st, W1, hme, hM1, hk1, hz1, hst⟩ := hMV.entry cell_keyed Try.underlying123 zeroInt hg
          have hl1 := hM1.look cell_keyed Try.underlying123 zeroInt hg
          obtain ⟨W2, hse, _, hM2, hk2, hz2⟩ := hst (.int .i64 1)
          rw [updM_same, Option.getD_some] at hl1
          rw [q1] at hl hme hl1
          rw [q2] at hM2
          have b0 : (wr.alloc (.cells #[.int .i64 x1, .int .i64 x2] 39)).drew.cell? ⟨wr.heap.size, 0, none⟩ = some (.int .i64 x1) := Joins.cell_of_block (blk_last _ _ rfl) 0
          have b1 : (wr.alloc (.cells #[.int .i64 x1, .int .i64 x2] 39)).drew.cell? ⟨wr.heap.size, 1, none⟩ = some (.int .i64 x2) := Joins.cell_of_block (blk_last _ _ rfl) 1
          clear hx
          unfold keyV at hl hme hl1
          dsimp only at hl hme hl1
          go_wp2_with fail
          go_region
          go_wp2_with fail
          refine ⟨⟨k + 1, q + 1, by go_num, by omega, hM2, (hKp.alloc _).drew.trans hk2 (fun i hi h => by subst h; exact Nat.le_refl _)⟩, by simp [intOf]; omega⟩
        · obtain rfl : nx = k := by omega
          have hM1 : MapOf keyV GoodCell wr bm q (holdM xs []) := by
            have h := hM
            rwa [HLX.out, List.take_length] at h
          have C1 := C1.keeps hKp
          have C2 := C2.keeps hKp
          have hB3 : Below w.heap.size w wr := hBo.trans ((hKp.toBelow (fun i h => h) (by have := M0.lt; omega)).mono hws)
          obtain ⟨V, hV⟩ : ∃ V, V = wr := ⟨_, rfl⟩
          subst hV
          have hbV : bm ≤ V.heap.size := Nat.le_of_lt hM1.lt
          clear M0 hM hKp hBo hlt hk
          go_wp2_with fail
          go_loopw [53] (fun i wr => ∃ (j r : Nat), i = .int .i64 j ∧ j ≤ ny ∧ MapOf keyV GoodCell wr bm r (holdM xs (ys.take j)) ∧ Keeps (fun i => bm ≤ i) V wr) (fun i _ => ny - (intOf i).toNat)
          case atStart => exact ⟨0, q, rfl, Nat.zero_le _, hM1, Keeps.refl _ _⟩
          case round =>
            obtain ⟨j, r, rfl, hj, hM, hKp⟩ := hrel
            by_cases hlt : j < ny
            · obtain ⟨x, hx⟩ : ∃ x, ys[j]? = some x := ⟨ys[j]'(by have := HLY.out; omega), by simp⟩
              obtain ⟨b, o, rfl, d0, d1, hbl, hbB⟩ := (C2.keeps hKp).get hx
              obtain ⟨x1, x2⟩ := x
              dsimp only at d0 d1
              have hg := HGY.out _ (List.mem_of_getElem? hx)
              obtain ⟨q1, q2⟩ := holdM_y (xs := xs) hx HNY.out
              have hMV : MapOf keyV GoodCell (wr.alloc (.cells #[.int .i64 x1, .int .i64 x2] 39)).drew bm r (holdM xs (ys.take j)) := (hM.alloc _).keep rfl
              have hl := hMV.look cell_keyed Try.underlying123 zeroInt hg
              obtain ⟨st, W1, hme, hM1, hk1, hz1, hst⟩ := hMV.entry cell_keyed Try.underlying123 zeroInt hg
              have hl1 := hM1.look cell_keyed Try.underlying123 zeroInt hg
              rw [updM_same, Option.getD_some] at hl1
              have b0 : (wr.alloc (.cells #[.int .i64 x1, .int .i64 x2] 39)).drew.cell? ⟨wr.heap.size, 0, none⟩ = some (.int .i64 x1) := Joins.cell_of_block (blk_last _ _ rfl) 0
              have b1 : (wr.alloc (.cells #[.int .i64 x1, .int .i64 x2] 39)).drew.cell? ⟨wr.heap.size, 1, none⟩ = some (.int .i64 x2) := Joins.cell_of_block (blk_last _ _ rfl) 1
              clear hx
              unfold keyV at hl hme hl1
              dsimp only at hl hme hl1
              by_cases hin : (x1, x2) ∈ xs
              · rw [if_pos hin] at q1 q2
                rw [show ((1 : Int) + 2) = 3 from rfl] at q2
                obtain ⟨W2, hse, _, hM2, hk2, hz2⟩ := hst (.int .i64 3)
                rw [q1] at hl hme hl1
                rw [q2] at hM2
                go_wp2_with fail
                go_region
                go_wp2_with fail
                refine ⟨⟨j + 1, r + 1, by go_num, by omega, hM2, (hKp.alloc _).drew.trans hk2 (fun i hi h => by subst h; exact Nat.le_refl _)⟩, by simp [intOf]; omega⟩
              · rw [if_neg hin] at q1 q2
                rw [show ((0 : Int) + 2) = 2 from rfl] at q2
                obtain ⟨W2, hse, _, hM2, hk2, hz2⟩ := hst (.int .i64 2)
                rw [q1] at hl hme hl1
                rw [q2] at hM2
                go_wp2_with fail
                go_region
                go_wp2_with fail
                refine ⟨⟨j + 1, r + 1, by go_num, by omega, hM2, (hKp.alloc _).drew.trans hk2 (fun i hi h => by subst h; exact Nat.le_refl _)⟩, by simp [intOf]; omega⟩
            · obtain rfl : ny = j := by omega
              have hM1 : MapOf keyV GoodCell wr bm r (holdM xs ys) := by
                have h := hM
                rwa [HLY.out, List.take_length] at h
              have C1 := C1.keeps hKp
              have C2 := C2.keeps hKp
              have hB4 : Below w.heap.size w wr := hB3.trans ((hKp.toBelow (fun i h => h) hbV).mono hws)
              obtain ⟨V2, hV2⟩ : ∃ V2, V2 = wr := ⟨_, rfl⟩
              subst hV2
              clear hM hKp hB3 hlt hj
              go_wp2_with fail
              obtain ⟨bl, hbl0⟩ : ∃ bl, bl = V2.heap.size := ⟨_, rfl⟩
              have hbmb : bm < bl := by rw [hbl0]; exact hM1.lt
              have hlit := blk_last V2 (.cells #[.slice a1 nx c1, .slice a2 ny c2] 30) hbl0
              have C1 := C1.below ((Below.refl _ _).alloc (Nat.le_refl _) (.cells #[.slice a1 nx c1, .slice a2 ny c2] 30))
              have C2 := C2.below ((Below.refl _ _).alloc (Nat.le_refl _) (.cells #[.slice a1 nx c1, .slice a2 ny c2] 30))
              have hM1 := hM1.alloc (.cells #[.slice a1 nx c1, .slice a2 ny c2] 30)
              have hB4 := hB4.alloc hB4.size (.cells #[.slice a1 nx c1, .slice a2 ny c2] 30)
              rw [← hbl0]
              obtain ⟨U, hU⟩ : ∃ U, U = V2.alloc (.cells #[.slice a1 nx c1, .slice a2 ny c2] 30) := ⟨_, rfl⟩
              rw [← hU] at hlit C1 C2 hM1 hB4 ⊢
              have hUl : bl < U.heap.size := lt_of_block hlit
              clear hU hbl0
              go_loopw [16, 68] (fun out i wr => ∃ (t : Nat) (L : List (Int × Int)), i = .int .i64 t ∧ t ≤ 2 ∧ Aside (L = gatherF keep xs ys (doneM xs ys t) []) ∧ wr.ownsRow (bl + 1) 39 2 out L.length (L.flatMap encCell) ∧ Keeps (fun i => bl < i) U wr) (fun _ i _ => 2 - (intOf i).toNat)
              case atStart => exact ⟨0, [], rfl, by omega, by show _ = _; simp [doneM, gatherF], World.ownsRow_nil _ _ _ _, Keeps.refl _ _⟩
              case round =>
                obtain ⟨t, L, rfl, ht2, HL, hown, hKp⟩ := hrel
                have hlit2 := (hKp.block bl hUl (by omega)).trans hlit
                have l0 := Joins.cell_of_block hlit2 0
                have l1 := Joins.cell_of_block hlit2 1
                simp at l0 l1
                obtain ⟨va, vc, rfl⟩ := own_form hown
                obtain ⟨V3, hV3⟩ : ∃ V3, V3 = wr := ⟨_, rfl⟩
                subst hV3
                rcases (show t = 0 ∨ t = 1 ∨ t = 2 by omega) with rfl | rfl | rfl
                · rw [show ((0 : Nat) : Int) = 0 from rfl]
                  go_wp2_with fail
                  go_loopw [16, 74] (fun out i wr => ∃ (j : Nat) (L : List (Int × Int)), i = .int .i64 j ∧ j ≤ nx ∧ Aside (L = gatherF keep xs ys (doneM xs ys 0 ++ xs.take j) []) ∧ wr.ownsRow (bl + 1) 39 2 out L.length (L.flatMap encCell) ∧ Keeps (fun i => bl < i) U wr) (fun _ i _ => nx - (intOf i).toNat)
                  case atStart => exact ⟨0, L, rfl, Nat.zero_le _, by show _ = _; rw [List.take_zero, List.append_nil]; exact HL.out, hown, hKp⟩
                  case round =>
                    clear hown hlit2 l0 l1 hKp
                    obtain ⟨j, L, rfl, hj, HL, hown, hKp⟩ := hrel
                    by_cases hlt : j < nx
                    · obtain ⟨x, hx⟩ : ∃ x, xs[j]? = some x := ⟨xs[j]'(by have := HLX.out; omega), by simp⟩
                      obtain ⟨b, o, rfl, d0, d1, hbl, hbB⟩ := (C1.keeps (hKp.mono (fun i _ h => by show bm ≤ i; have : bl < i := h; omega))).get hx
                      have hmem := List.mem_of_getElem? hx
                      have hg := HGX.out _ hmem
                      have HX3 := Lib.hid hx
                      have HNXT := Lib.hid (gather_next HL.out hx)
                      have hMr : MapOf keyV GoodCell wr bm _ (holdM xs ys) := hM1.keep (hKp.block bm hM1.lt (by omega))
                      have hsp := gatherF_spec keep xs ys (doneM xs ys 0 ++ xs.take j) [] List.Pairwise.nil
                      have hLr : Rising L := by rw [HL.out]; exact hsp.1
                      have hLl : L.length ≤ 100000 := by have := gatherF_length keep xs ys (doneM xs ys 0 ++ xs.take j) []; rw [← HL.out] at this; simp [doneM] at this; have := HLX.out; have := HLY.out; omega
                      have HLR := Lib.hid hLr
                      obtain ⟨va', vc', rfl⟩ := own_form hown
                      have hsz0 := hKp.size
                      have hMr := hMr.alloc (.cells #[.int .i64 x.1, .int .i64 x.2] 39)
                      have b0 : (wr.alloc (.cells #[.int .i64 x.1, .int .i64 x.2] 39)).cell? ⟨wr.heap.size, 0, none⟩ = some (.int .i64 x.1) := Joins.cell_of_block (blk_last _ _ rfl) 0
                      have b1 : (wr.alloc (.cells #[.int .i64 x.1, .int .i64 x.2] 39)).cell? ⟨wr.heap.size, 1, none⟩ = some (.int .i64 x.2) := Joins.cell_of_block (blk_last _ _ rfl) 1
                      have gb0 := Grow.cells b0
                      have gb1 := Grow.cells b1
                      have hlk : ∀ z : Grow (wr.alloc (.cells #[.int .i64 x.1, .int .i64 x.2] 39)), (Instr.lookup 123 (.map (some bm)) (.agg #[.int .i64 x.1, .int .i64 x.2]) false).run Try.prog z.val = .ok (((holdM xs ys) x).getD (.int .i64 0)) z.val := fun z => (hMr.keep (z.below.block _ hMr.lt)).look cell_keyed Try.underlying123 zeroInt hg
                      have HOWN := Lib.hid hown
                      obtain ⟨p, hp⟩ : ∃ p, decide (x ∈ xs) = p := ⟨_, rfl⟩
                      obtain ⟨q', hq⟩ : ∃ q', decide (x ∈ ys) = q' := ⟨_, rfl⟩
                      have HP := Lib.hid hp
                      have HQ := Lib.hid hq
                      have hkp : ∀ W, Calls Try.prog K #[.bool p, .bool q'] W fun e w' => e = .returned (.bool (keep p q')) ∧ Below W.heap.size W w' := fun W => (hK p q' W).mono fun e w' ⟨he, hw⟩ => ⟨he, by rw [← hw]; exact Below.refl _ _⟩
                      obtain ⟨r', hr'⟩ : ∃ r', keep p q' = r' := ⟨_, rfl⟩
                      rw [hr'] at hkp
                      have HR' := Lib.hid hr'
                      have hval : ((holdM xs ys) x).getD (.int .i64 0) = .int .i64 (cntM xs ys x) := by rw [holdM, if_pos (.inl hmem)]; rfl
                      rw [hval] at hlk
                      clear hx hM1 hown hMr hsp hLr hr' hval
                      by_cases hin : x ∈ ys
                      · have hcv : cntM xs ys x = 3 := by simp [cntM, hmem, hin]
                        obtain rfl : p = true := by rw [← hp]; simp [hmem, hin]
                        obtain rfl : q' = true := by rw [← hq]; simp [hmem, hin]
                        rw [hcv] at hlk
                        obtain ⟨x1, x2⟩ := x
                        dsimp only at *
                        have HKP := Lib.hid hkp
                        clear hp hq hkp hcv hin hmem hg
                        cases r'
                        · go_wp2_with fail
                          rcases hK3 with rfl | rfl
                          all_goals
                            refine wp_region_grow (by kernel_rfl) (by kernel_rfl) ?_
                            repeat (go_big_quiet_step (first | (go_at_call 50; with_reducible exact grow_of (HKP.out _)) | (go_at_call 51; with_reducible exact grow_of (HKP.out _))))
                            refine wpQuiet_nil ?_
                            intro _ hw'
                            obtain ⟨z, hz⟩ := hw'
                            subst hz
                            have hKz := (hKp.alloc (.cells #[.int .i64 x1, .int .i64 x2] 39)).below z.below
                            have hoz := own_below (HOWN.out.alloc (.cells #[.int .i64 x1, .int .i64 x2] 39)) z.below
                            go_wp2_with fail
                            refine ⟨⟨j + 1, L, by go_num, by omega, ?_, hoz, hKz⟩, by simp [intOf]; omega⟩
                            show _ = _
                            rw [← HNXT.out, step_no HP.out HQ.out HR'.out]
                        · go_wp2_with fail
                          rcases hK3 with rfl | rfl
                          all_goals
                            refine wp_region_grow (by kernel_rfl) (by kernel_rfl) ?_
                            repeat (go_big_quiet_step (first | (go_at_call 50; with_reducible exact grow_of (HKP.out _)) | (go_at_call 51; with_reducible exact grow_of (HKP.out _))))
                            refine wpQuiet_nil ?_
                            intro _ hw'
                            obtain ⟨z, hz⟩ := hw'
                            subst hz
                            have hKz := (hKp.alloc (.cells #[.int .i64 x1, .int .i64 x2] 39)).below z.below
                            have hoz := own_below (HOWN.out.alloc (.cells #[.int .i64 x1, .int .i64 x2] 39)) z.below
                            have c0 := z.cell b0
                            have c1' := z.cell b1
                            have hzs := z.below.size
                            have hzs2 : bl + 1 ≤ z.val.heap.size := by simp at hzs; omega
                            clear hlk gb0 gb1
                            go_wp2_with fail
                            refine (put_any L (x1, x2) (bl + 1) _ _ _ hoz hzs2 HLR.out (by omega)).mono ?_
                            rintro e w3 ⟨v', rfl, hown', hkk⟩
                            obtain ⟨vb, vd, rfl⟩ := own_form hown'
                            have HOWN' := Lib.hid hown'
                            have HKK := Lib.hid (hKz.trans hkk (fun i _ h => by have := (hoz.lt i h).1; show bl < i; omega))
                            clear hown' hkk hoz hKz c0 c1'
                            go_wp2_with fail
                            refine ⟨⟨j + 1, putF (x1, x2) L, by go_num, by omega, ?_, HOWN'.out, HKK.out⟩, by simp [intOf]; omega⟩
                            show _ = _
                            rw [← HNXT.out, step_yes HP.out HQ.out HR'.out]
                      · have hcv : cntM xs ys x = 1 := by simp [cntM, hmem, hin]
                        obtain rfl : p = true := by rw [← hp]; simp [hmem, hin]
                        obtain rfl : q' = false := by rw [← hq]; simp [hmem, hin]
                        rw [hcv] at hlk
                        obtain ⟨x1, x2⟩ := x
                        dsimp only at *
                        have HKP := Lib.hid hkp
                        clear hp hq hkp hcv hin hmem hg
                        cases r'
                        · go_wp2_with fail
                          rcases hK3 with rfl | rfl
                          all_goals
                            refine wp_region_grow (by kernel_rfl) (by kernel_rfl) ?_
                            repeat (go_big_quiet_step (first | (go_at_call 50; with_reducible exact grow_of (HKP.out _)) | (go_at_call 51; with_reducible exact grow_of (HKP.out _))))
                            refine wpQuiet_nil ?_
                            intro _ hw'
                            obtain ⟨z, hz⟩ := hw'
                            subst hz
                            have hKz := (hKp.alloc (.cells #[.int .i64 x1, .int .i64 x2] 39)).below z.below
                            have hoz := own_below (HOWN.out.alloc (.cells #[.int .i64 x1, .int .i64 x2] 39)) z.below
                            go_wp2_with fail
                            refine ⟨⟨j + 1, L, by go_num, by omega, ?_, hoz, hKz⟩, by simp [intOf]; omega⟩
                            show _ = _
                            rw [← HNXT.out, step_no HP.out HQ.out HR'.out]
                        · go_wp2_with fail
                          rcases hK3 with rfl | rfl
                          all_goals
                            refine wp_region_grow (by kernel_rfl) (by kernel_rfl) ?_
                            repeat (go_big_quiet_step (first | (go_at_call 50; with_reducible exact grow_of (HKP.out _)) | (go_at_call 51; with_reducible exact grow_of (HKP.out _))))
                            refine wpQuiet_nil ?_
                            intro _ hw'
                            obtain ⟨z, hz⟩ := hw'
                            subst hz
                            have hKz := (hKp.alloc (.cells #[.int .i64 x1, .int .i64 x2] 39)).below z.below
                            have hoz := own_below (HOWN.out.alloc (.cells #[.int .i64 x1, .int .i64 x2] 39)) z.below
                            have c0 := z.cell b0
                            have c1' := z.cell b1
                            have hzs := z.below.size
                            have hzs2 : bl + 1 ≤ z.val.heap.size := by simp at hzs; omega
                            clear hlk gb0 gb1
                            go_wp2_with fail
                            refine (put_any L (x1, x2) (bl + 1) _ _ _ hoz hzs2 HLR.out (by omega)).mono ?_
                            rintro e w3 ⟨v', rfl, hown', hkk⟩
                            obtain ⟨vb, vd, rfl⟩ := own_form hown'
                            have HOWN' := Lib.hid hown'
                            have HKK := Lib.hid (hKz.trans hkk (fun i _ h => by have := (hoz.lt i h).1; show bl < i; omega))
                            clear hown' hkk hoz hKz c0 c1'
                            go_wp2_with fail
                            refine ⟨⟨j + 1, putF (x1, x2) L, by go_num, by omega, ?_, HOWN'.out, HKK.out⟩, by simp [intOf]; omega⟩
                            show _ = _
                            rw [← HNXT.out, step_yes HP.out HQ.out HR'.out]
                    · obtain rfl : j = nx := by omega
                      obtain ⟨va', vc', rfl⟩ := own_form hown
                      have HOWN := Lib.hid hown
                      have hLd : Aside (L = gatherF keep xs ys (doneM xs ys 1) []) := by
                        show _ = _
                        rw [HL.out, HLX.out, List.take_length]
                        rfl
                      clear hown HL
                      go_wp2_with fail
                      exact ⟨⟨1, L, by go_num, by omega, hLd, HOWN.out, hKp⟩, by simp [intOf]⟩
                · rw [show ((1 : Nat) : Int) = 1 from rfl]
                  go_wp2_with fail
                  go_loopw [16, 74] (fun out i wr => ∃ (j : Nat) (L : List (Int × Int)), i = .int .i64 j ∧ j ≤ ny ∧ Aside (L = gatherF keep xs ys (doneM xs ys 1 ++ ys.take j) []) ∧ wr.ownsRow (bl + 1) 39 2 out L.length (L.flatMap encCell) ∧ Keeps (fun i => bl < i) U wr) (fun _ i _ => ny - (intOf i).toNat)
                  case atStart => exact ⟨0, L, rfl, Nat.zero_le _, by show _ = _; rw [List.take_zero, List.append_nil]; exact HL.out, hown, hKp⟩
                  case round =>
                    clear hown hlit2 l0 l1 hKp
                    obtain ⟨j, L, rfl, hj, HL, hown, hKp⟩ := hrel
                    by_cases hlt : j < ny
                    · obtain ⟨x, hx⟩ : ∃ x, ys[j]? = some x := ⟨ys[j]'(by have := HLY.out; omega), by simp⟩
                      obtain ⟨b, o, rfl, d0, d1, hbl, hbB⟩ := (C2.keeps (hKp.mono (fun i _ h => by show bm ≤ i; have : bl < i := h; omega))).get hx
                      have hmem := List.mem_of_getElem? hx
                      have hg := HGY.out _ hmem
                      have HX3 := Lib.hid hx
                      have HNXT := Lib.hid (gather_next HL.out hx)
                      have hMr : MapOf keyV GoodCell wr bm _ (holdM xs ys) := hM1.keep (hKp.block bm hM1.lt (by omega))
                      have hsp := gatherF_spec keep xs ys (doneM xs ys 1 ++ ys.take j) [] List.Pairwise.nil
                      have hLr : Rising L := by rw [HL.out]; exact hsp.1
                      have hLl : L.length ≤ 100000 := by have := gatherF_length keep xs ys (doneM xs ys 1 ++ ys.take j) []; rw [← HL.out] at this; simp [doneM] at this; have := HLX.out; have := HLY.out; omega
                      have HLR := Lib.hid hLr
                      obtain ⟨va', vc', rfl⟩ := own_form hown
                      have hsz0 := hKp.size
                      have hMr := hMr.alloc (.cells #[.int .i64 x.1, .int .i64 x.2] 39)
                      have b0 : (wr.alloc (.cells #[.int .i64 x.1, .int .i64 x.2] 39)).cell? ⟨wr.heap.size, 0, none⟩ = some (.int .i64 x.1) := Joins.cell_of_block (blk_last _ _ rfl) 0
                      have b1 : (wr.alloc (.cells #[.int .i64 x.1, .int .i64 x.2] 39)).cell? ⟨wr.heap.size, 1, none⟩ = some (.int .i64 x.2) := Joins.cell_of_block (blk_last _ _ rfl) 1
                      have gb0 := Grow.cells b0
                      have gb1 := Grow.cells b1
                      have hlk : ∀ z : Grow (wr.alloc (.cells #[.int .i64 x.1, .int .i64 x.2] 39)), (Instr.lookup 123 (.map (some bm)) (.agg #[.int .i64 x.1, .int .i64 x.2]) false).run Try.prog z.val = .ok (((holdM xs ys) x).getD (.int .i64 0)) z.val := fun z => (hMr.keep (z.below.block _ hMr.lt)).look cell_keyed Try.underlying123 zeroInt hg
                      have HOWN := Lib.hid hown
                      obtain ⟨p, hp⟩ : ∃ p, decide (x ∈ xs) = p := ⟨_, rfl⟩
                      obtain ⟨q', hq⟩ : ∃ q', decide (x ∈ ys) = q' := ⟨_, rfl⟩
                      have HP := Lib.hid hp
                      have HQ := Lib.hid hq
                      have hkp : ∀ W, Calls Try.prog K #[.bool p, .bool q'] W fun e w' => e = .returned (.bool (keep p q')) ∧ Below W.heap.size W w' := fun W => (hK p q' W).mono fun e w' ⟨he, hw⟩ => ⟨he, by rw [← hw]; exact Below.refl _ _⟩
                      obtain ⟨r', hr'⟩ : ∃ r', keep p q' = r' := ⟨_, rfl⟩
                      rw [hr'] at hkp
                      have HR' := Lib.hid hr'
                      have hval : ((holdM xs ys) x).getD (.int .i64 0) = .int .i64 (cntM xs ys x) := by rw [holdM, if_pos (.inr hmem)]; rfl
                      rw [hval] at hlk
                      clear hx hM1 hown hMr hsp hLr hr' hval
                      by_cases hin : x ∈ xs
                      · have hcv : cntM xs ys x = 3 := by simp [cntM, hmem, hin]
                        obtain rfl : p = true := by rw [← hp]; simp [hmem, hin]
                        obtain rfl : q' = true := by rw [← hq]; simp [hmem, hin]
                        rw [hcv] at hlk
                        obtain ⟨x1, x2⟩ := x
                        dsimp only at *
                        have HKP := Lib.hid hkp
                        clear hp hq hkp hcv hin hmem hg
                        cases r'
                        · go_wp2_with fail
                          rcases hK3 with rfl | rfl
                          all_goals
                            refine wp_region_grow (by kernel_rfl) (by kernel_rfl) ?_
                            repeat (go_big_quiet_step (first | (go_at_call 50; with_reducible exact grow_of (HKP.out _)) | (go_at_call 51; with_reducible exact grow_of (HKP.out _))))
                            refine wpQuiet_nil ?_
                            intro _ hw'
                            obtain ⟨z, hz⟩ := hw'
                            subst hz
                            have hKz := (hKp.alloc (.cells #[.int .i64 x1, .int .i64 x2] 39)).below z.below
                            have hoz := own_below (HOWN.out.alloc (.cells #[.int .i64 x1, .int .i64 x2] 39)) z.below
                            go_wp2_with fail
                            refine ⟨⟨j + 1, L, by go_num, by omega, ?_, hoz, hKz⟩, by simp [intOf]; omega⟩
                            show _ = _
                            rw [← HNXT.out, step_no HP.out HQ.out HR'.out]
                        · go_wp2_with fail
                          rcases hK3 with rfl | rfl
                          all_goals
                            refine wp_region_grow (by kernel_rfl) (by kernel_rfl) ?_
                            repeat (go_big_quiet_step (first | (go_at_call 50; with_reducible exact grow_of (HKP.out _)) | (go_at_call 51; with_reducible exact grow_of (HKP.out _))))
                            refine wpQuiet_nil ?_
                            intro _ hw'
                            obtain ⟨z, hz⟩ := hw'
                            subst hz
                            have hKz := (hKp.alloc (.cells #[.int .i64 x1, .int .i64 x2] 39)).below z.below
                            have hoz := own_below (HOWN.out.alloc (.cells #[.int .i64 x1, .int .i64 x2] 39)) z.below
                            have c0 := z.cell b0
                            have c1' := z.cell b1
                            have hzs := z.below.size
                            have hzs2 : bl + 1 ≤ z.val.heap.size := by simp at hzs; omega
                            clear hlk gb0 gb1
                            go_wp2_with fail
                            refine (put_any L (x1, x2) (bl + 1) _ _ _ hoz hzs2 HLR.out (by omega)).mono ?_
                            rintro e w3 ⟨v', rfl, hown', hkk⟩
                            obtain ⟨vb, vd, rfl⟩ := own_form hown'
                            have HOWN' := Lib.hid hown'
                            have HKK := Lib.hid (hKz.trans hkk (fun i _ h => by have := (hoz.lt i h).1; show bl < i; omega))
                            clear hown' hkk hoz hKz c0 c1'
                            go_wp2_with fail
                            refine ⟨⟨j + 1, putF (x1, x2) L, by go_num, by omega, ?_, HOWN'.out, HKK.out⟩, by simp [intOf]; omega⟩
                            show _ = _
                            rw [← HNXT.out, step_yes HP.out HQ.out HR'.out]
                      · have hcv : cntM xs ys x = 2 := by simp [cntM, hmem, hin]
                        obtain rfl : p = false := by rw [← hp]; simp [hmem, hin]
                        obtain rfl : q' = true := by rw [← hq]; simp [hmem, hin]
                        rw [hcv] at hlk
                        obtain ⟨x1, x2⟩ := x
                        dsimp only at *
                        have HKP := Lib.hid hkp
                        clear hp hq hkp hcv hin hmem hg
                        cases r'
                        · go_wp2_with fail
                          rcases hK3 with rfl | rfl
                          all_goals
                            refine wp_region_grow (by kernel_rfl) (by kernel_rfl) ?_
                            repeat (go_big_quiet_step (first | (go_at_call 50; with_reducible exact grow_of (HKP.out _)) | (go_at_call 51; with_reducible exact grow_of (HKP.out _))))
                            refine wpQuiet_nil ?_
                            intro _ hw'
                            obtain ⟨z, hz⟩ := hw'
                            subst hz
                            have hKz := (hKp.alloc (.cells #[.int .i64 x1, .int .i64 x2] 39)).below z.below
                            have hoz := own_below (HOWN.out.alloc (.cells #[.int .i64 x1, .int .i64 x2] 39)) z.below
                            go_wp2_with fail
                            refine ⟨⟨j + 1, L, by go_num, by omega, ?_, hoz, hKz⟩, by simp [intOf]; omega⟩
                            show _ = _
                            rw [← HNXT.out, step_no HP.out HQ.out HR'.out]
                        · go_wp2_with fail
                          rcases hK3 with rfl | rfl
                          all_goals
                            refine wp_region_grow (by kernel_rfl) (by kernel_rfl) ?_
                            repeat (go_big_quiet_step (first | (go_at_call 50; with_reducible exact grow_of (HKP.out _)) | (go_at_call 51; with_reducible exact grow_of (HKP.out _))))
                            refine wpQuiet_nil ?_
                            intro _ hw'
                            obtain ⟨z, hz⟩ := hw'
                            subst hz
                            have hKz := (hKp.alloc (.cells #[.int .i64 x1, .int .i64 x2] 39)).below z.below
                            have hoz := own_below (HOWN.out.alloc (.cells #[.int .i64 x1, .int .i64 x2] 39)) z.below
                            have c0 := z.cell b0
                            have c1' := z.cell b1
                            have hzs := z.below.size
                            have hzs2 : bl + 1 ≤ z.val.heap.size := by simp at hzs; omega
                            clear hlk gb0 gb1
                            go_wp2_with fail
                            refine (put_any L (x1, x2) (bl + 1) _ _ _ hoz hzs2 HLR.out (by omega)).mono ?_
                            rintro e w3 ⟨v', rfl, hown', hkk⟩
                            obtain ⟨vb, vd, rfl⟩ := own_form hown'
                            have HOWN' := Lib.hid hown'
                            have HKK := Lib.hid (hKz.trans hkk (fun i _ h => by have := (hoz.lt i h).1; show bl < i; omega))
                            clear hown' hkk hoz hKz c0 c1'
                            go_wp2_with fail
                            refine ⟨⟨j + 1, putF (x1, x2) L, by go_num, by omega, ?_, HOWN'.out, HKK.out⟩, by simp [intOf]; omega⟩
                            show _ = _
                            rw [← HNXT.out, step_yes HP.out HQ.out HR'.out]
                    · obtain rfl : j = ny := by omega
                      obtain ⟨va', vc', rfl⟩ := own_form hown
                      have HOWN := Lib.hid hown
                      have hLd : Aside (L = gatherF keep xs ys (doneM xs ys 2) []) := by
                        show _ = _
                        rw [HL.out, HLY.out, List.take_length]
                        rfl
                      clear hown HL
                      go_wp2_with fail
                      exact ⟨⟨2, L, by go_num, by omega, hLd, HOWN.out, hKp⟩, by simp [intOf]⟩
                · have hL : L = pickF keep' xs ys := by
                    rw [HL.out]
                    exact gather_pick keep keep' hkk (by have := tidyF_rising zs; rw [← HX.out] at this; exact this) (by have := tidyF_rising ms; rw [← HY.out] at this; exact this)
                  have hr2 := hres.out
                  rw [← hL] at hr2
                  have HR2 := Lib.hid hr2
                  have hB5 : Below w.heap.size w V3 := hB4.trans ((hKp.toBelow (B := bl) (fun i h => Nat.le_of_lt h) (Nat.le_of_lt hUl)).mono (by omega))
                  have HT := Lib.hid (Tight.of_own (Joins.ownsRow_le hown (show w.heap.size ≤ bl + 1 by omega)))
                  obtain ⟨no, hno⟩ : ∃ no, no = L.length := ⟨_, rfl⟩
                  rw [← hno]
                  have HNO := Lib.hid hno
                  clear hres hL hr2 hown hKp hno HL l0 l1 hlit2
                  by_cases hbig : 4096 < no
                  · have hb2 : (4096 : Int) < (no : Int) := by omega
                    go_wp2_with fail
                    refine bodyPost_ret (v := .tuple #[.slice none 0 0, .int .i64 5]) (by simp [results, Try.results49, go_sem]) rfl ⟨.slice none 0 0, ?_, hB5, ?_⟩
                    · rw [HR2.out, if_pos (by rw [← HNO.out]; exact hbig)]
                    · rw [HR2.out, if_pos (by rw [← HNO.out]; exact hbig)]; exact Tight.nil _ _
                  · have hb2 : (no : Int) ≤ 4096 := by omega
                    go_wp2_with fail
                    refine bodyPost_ret (v := .tuple #[.slice va no vc, .int .i64 0]) (by simp [results, Try.results49, go_sem]) rfl ⟨.slice va no vc, ?_, hB5, ?_⟩
                    · rw [HR2.out, if_neg (by rw [← HNO.out]; exact hbig)]
                    · rw [HR2.out, if_neg (by rw [← HNO.out]; exact hbig), HNO.out]; exact HT.out
    · have hz : (e2 == 0) = false := by simp [he2]
      have hres : mergeF keep' zs ms = ([], e2) := by
        rw [mergeF, ← HX.out, ← HY.out, if_neg (by simp), if_pos (by simpa using he2)]
      have HR := Lib.hid hres
      clear hres C1' C2
      go_wp2_with fail
      refine bodyPost_ret (v := .tuple #[.slice none 0 0, .int .i64 e2]) (by simp [results, Try.results49, go_sem]) rfl ⟨.slice none 0 0, by rw [HR.out], hB2, by rw [HR.out]; exact Tight.nil _ _⟩
  · have hz : (e1 == 0) = false := by simp [he1]
    have hres : mergeF keep' zs ms = ([], e1) := by
      rw [mergeF, ← HX.out, if_pos (by simpa using he1)]
    have HR := Lib.hid hres
    clear hres C1
    go_wp2_with fail
    refine bodyPost_ret (v := .tuple #[.slice none 0 0, .int .i64 e1]) (by simp [results, Try.results49, go_sem]) rfl ⟨.slice none 0 0, by rw [HR.out], hB1, by rw [HR.out]; exact Tight.nil _ _⟩
theorem keeper_ref_or : Keeper 50 (fun _ _ => true) := fun a b W => by
  go_enter Try.func50, Try.ntmps50
  go_wp2_with fail
  go_ret
  exact ⟨rfl, rfl⟩
theorem keeper_ref_minus : Keeper 51 (fun _ b => !b) := fun a b W => by
  cases b <;>
  · go_enter Try.func51, Try.ntmps51
    go_wp2_with fail
    go_ret
    exact ⟨rfl, rfl⟩
def keepOr : Bool → Bool → Bool := fun a b => a || b
def keepMinus : Bool → Bool → Bool := fun a b => a && !b
theorem picked_of {w w' : World} {keep : Bool → Bool → Bool} {zs ms : List (Int × Int)} {e : Ending} {r : List (Int × Int)} {er : Int} (hr : (r, er) = mergeF keep zs ms) (h : Picked w keep zs ms e w') :
    ∃ a c, e = .returned (.tuple #[.slice a r.length c, .int .i64 er]) ∧ Below w.heap.size w w' ∧ Tight w.heap.size w' (.slice a r.length c) r := by
  obtain ⟨v, he, hb, ht⟩ := h
  rw [← hr] at he ht
  obtain ⟨a, c, rfl, _, _⟩ := ht.form
  exact ⟨a, c, he, hb, ht⟩
set_option maxHeartbeats 1000000 in
theorem refUnion_any (zs ms : List (Int × Int)) (a a' : Option Addr) (cap cap' : Nat) (w : World) (hs : Sl w 2 16 a zs.length cap (zs.flatMap encCell)) (hs' : Sl w 2 16 a' ms.length cap' (ms.flatMap encCell)) :
    Calls Try.prog 19 #[.slice a zs.length cap, .slice a' ms.length cap'] w (Picked w keepOr zs ms) := by
  have hc := fun W h1 h2 => merge_any 50 (fun _ _ => true) keepOr (by intro a b h; cases a <;> cases b <;> simp_all [keepOr]) keeper_ref_or (.inl rfl) zs ms a a' cap cap' W h1 h2
  obtain ⟨⟨r, er⟩, hR⟩ : ∃ R, R = mergeF keepOr zs ms := ⟨_, rfl⟩
  have HC := Lib.hid hc
  have HR := Lib.hid hR
  have HS := Lib.hid hs
  have HS' := Lib.hid hs'
  obtain ⟨n, hn⟩ : ∃ n, n = zs.length := ⟨_, rfl⟩
  obtain ⟨m, hm⟩ : ∃ m, m = ms.length := ⟨_, rfl⟩
  rw [← hn] at HS HC ⊢
  rw [← hm] at HS' HC ⊢
  clear hc hR hs hs' hn hm
  go_enter Try.func19, Try.ntmps19
  go_wp2_with fail
  refine (HC.out _ HS.out HS'.out).mono ?_
  intro e w2 h2
  obtain ⟨a2, c2, rfl, hb2, ht2⟩ := picked_of HR.out h2
  have HT := Lib.hid ht2
  clear h2 ht2
  go_wp2_with fail
  refine bodyPost_ret (v := .tuple #[.slice a2 r.length c2, .int .i64 er]) (by simp [results, Try.results19, go_sem]) rfl ⟨.slice a2 r.length c2, by rw [← HR.out], hb2, by rw [← HR.out]; exact HT.out⟩
set_option maxHeartbeats 1000000 in
theorem refMinus_any (zs ms : List (Int × Int)) (a a' : Option Addr) (cap cap' : Nat) (w : World) (hs : Sl w 2 16 a zs.length cap (zs.flatMap encCell)) (hs' : Sl w 2 16 a' ms.length cap' (ms.flatMap encCell)) :
    Calls Try.prog 20 #[.slice a zs.length cap, .slice a' ms.length cap'] w (Picked w keepMinus zs ms) := by
  have hc := fun W h1 h2 => merge_any 51 (fun _ b => !b) keepMinus (by intro a b h; cases a <;> cases b <;> simp_all [keepMinus]) keeper_ref_minus (.inr rfl) zs ms a a' cap cap' W h1 h2
  obtain ⟨⟨r, er⟩, hR⟩ : ∃ R, R = mergeF keepMinus zs ms := ⟨_, rfl⟩
  have HC := Lib.hid hc
  have HR := Lib.hid hR
  have HS := Lib.hid hs
  have HS' := Lib.hid hs'
  obtain ⟨n, hn⟩ : ∃ n, n = zs.length := ⟨_, rfl⟩
  obtain ⟨m, hm⟩ : ∃ m, m = ms.length := ⟨_, rfl⟩
  rw [← hn] at HS HC ⊢
  rw [← hm] at HS' HC ⊢
  clear hc hR hs hs' hn hm
  go_enter Try.func20, Try.ntmps20
  go_wp2_with fail
  refine (HC.out _ HS.out HS'.out).mono ?_
  intro e w2 h2
  obtain ⟨a2, c2, rfl, hb2, ht2⟩ := picked_of HR.out h2
  have HT := Lib.hid ht2
  clear h2 ht2
  go_wp2_with fail
  refine bodyPost_ret (v := .tuple #[.slice a2 r.length c2, .int .i64 er]) (by simp [results, Try.results20, go_sem]) rfl ⟨.slice a2 r.length c2, by rw [← HR.out], hb2, by rw [← HR.out]; exact HT.out⟩
theorem sl_one {w : World} {b : Nat} {x y : Int} (hb : w.heap[b]? = some (.cells #[.int .i64 x, .int .i64 y] 39 (0, 0))) : Sl w 2 16 (some ⟨b, 0, none⟩) [(x, y)].length 1 ([(x, y)].flatMap encCell) :=
  ⟨rfl, Nat.le_refl _, by simp [maxLen], (fun h => by cases h), by simp, fun _ => ⟨b, 0, rfl, fun j u hu => by rw [Nat.zero_add, Joins.cell_of_block hb]; simpa [encCell] using hu⟩⟩
end Go.Proofs.Ytdmamecfmfhlmaa
