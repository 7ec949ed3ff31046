/-
  plane.pick, and Union, Both, Minus by it.
-/
import Derived.Test.YtffgpjkkgndkiaaPicks
namespace Go.Proofs.Ytffgpjkkgndkiaa
set_option maxRecDepth 100000
open Go.RowKit

/-- A list read, from its head on. -/
def Cut (w : World) (B : Nat) (v : Value) (X : List (Int × Int)) : Prop := ∃ a c, v = .slice a X.length c ∧ Sl w 2 16 a X.length c (X.flatMap encCell) ∧ ∀ b o, a = some ⟨b, o, none⟩ → b < B
theorem Cut.tail {w : World} {B : Nat} {b o c : Nat} {x : Int × Int} {X : List (Int × Int)} (h : Sl w 2 16 (some ⟨b, o, none⟩) (X.length + 1) c ((x :: X).flatMap encCell)) (hb : b < B) :
    Cut w B (.slice (if c = 1 then some ⟨b, o, none⟩ else some ⟨b, o + 2, none⟩) X.length (c - 1)) X := by
  have hroom := h.room
  have hfits := h.fits
  have hwide := h.wide
  by_cases hc : c = 1
  · rw [if_pos hc]
    have h0 : X = [] := List.eq_nil_of_length_eq_zero (by omega)
    subst h0
    exact ⟨_, _, rfl, ⟨rfl, by simp, by omega, (fun h => by cases h), by simp, fun hn => by simp at hn⟩, fun b' o' e => by
      simp only [Option.some.injEq, Addr.mk.injEq, and_true] at e
      omega⟩
  rw [if_neg hc]
  refine ⟨_, _, rfl, ⟨?_, ?_, ?_, (fun h => by cases h), ?_, fun hn => ⟨b, o + 2, rfl, fun j u hu => ?_⟩⟩, fun b' o' e => ?_⟩
  · rw [flat_len]
  · omega
  · omega
  · omega
  · obtain ⟨b', o', e, hr⟩ := h.row (by omega)
    simp only [Option.some.injEq, Addr.mk.injEq, and_true] at e
    obtain ⟨rfl, rfl⟩ := e
    have := hr (j + 2) u (by simpa [encCell] using hu)
    rwa [show o + (j + 2) = o + 2 + j by omega] at this
  · simp only [Option.some.injEq, Addr.mk.injEq, and_true] at e
    omega
theorem Cut.keeps {w w' : World} {B : Nat} {v : Value} {X : List (Int × Int)} (h : Cut w B v X) (hk : Keeps (fun i => B ≤ i) w w') : Cut w' B v X := by
  obtain ⟨a, c, e, hs, hb⟩ := h
  refine ⟨a, c, e, ⟨hs.len, hs.room, hs.fits, hs.nil, hs.wide, fun hn => ?_⟩, hb⟩
  obtain ⟨b, o, ea, hr⟩ := hs.row hn
  have hlt := hr.lt (by rw [hs.len]; omega)
  have hbB := hb b o ea
  exact ⟨b, o, ea, fun j u hu => by rw [hk.cell (p := ⟨b, o + j, none⟩) hlt (by simp; omega)]; exact hr j u hu⟩
theorem Cut.below {w w' : World} {B : Nat} {v : Value} {X : List (Int × Int)} (h : Cut w B v X) (hk : Below w.heap.size w w') : Cut w' B v X := h.keeps (Keeps.of_below hk)
theorem Cut.of_tight {w : World} {base : Nat} {v : Value} {X : List (Int × Int)} (h : Tight base w v X) (hb : X.length * 16 ≤ 140737488351232) : Cut w w.heap.size v X := by
  obtain ⟨a, c, rfl, _, _⟩ := h.form
  refine ⟨a, c, rfl, h.sl hb, fun b o e => ?_⟩
  rcases h with ⟨h, _⟩ | ⟨g, cap, sp, hv, hh, _⟩
  · simp only [Value.slice.injEq] at h
    rw [h.1] at e; cases e
  · simp only [Value.slice.injEq, true_and] at hv
    rw [hv.1] at e
    simp only [Option.some.injEq, Addr.mk.injEq, and_true] at e
    rw [← e.1]; exact hh.lt
/-- The head of a list that is read. -/
theorem Cut.head {w : World} {B : Nat} {v : Value} {x : Int × Int} {X : List (Int × Int)} (h : Cut w B v (x :: X)) :
    ∃ b o c, v = .slice (some ⟨b, o, none⟩) (X.length + 1) c ∧ X.length + 1 ≤ c ∧ w.cell? ⟨b, o, none⟩ = some (.int .i64 x.1) ∧ w.cell? ⟨b, o + 1, none⟩ = some (.int .i64 x.2) ∧ b < w.heap.size ∧ b < B ∧ Cut w B (.slice (if c = 1 then some ⟨b, o, none⟩ else some ⟨b, o + 2, none⟩) X.length (c - 1)) X := by
  obtain ⟨a, c, rfl, hs, hb⟩ := h
  obtain ⟨b, o, rfl, hr⟩ := hs.row (by simp)
  have hlt := hs.lt (by simp) (by omega)
  refine ⟨b, o, c, rfl, hs.room, ?_, ?_, hlt, hb b o rfl, Cut.tail hs (hb b o rfl)⟩
  · have := hr 0 _ (by simp [encCell]; rfl); exact this
  · have := hr 1 _ (by simp [encCell]; rfl); exact this
def Picked (w : World) (keep : Bool → Bool → Bool) (zs ms : List (Int × Int)) (e : Ending) (w' : World) : Prop :=
  ∃ v, e = .returned (.tuple #[v, .int .i64 (mergeF keep zs ms).2]) ∧ Below w.heap.size w w' ∧ Tight w.heap.size w' v (mergeF keep zs ms).1
theorem pickF_length (keep : Bool → Bool → Bool) : ∀ x y : List (Int × Int), (pickF keep x y).length ≤ x.length + y.length
  | [], [] => by rw [pickF]; simp
  | a :: x, [] => by
    rw [pickF]; have := pickF_length keep x []
    split <;> simp at this ⊢ <;> omega
  | [], b :: y => by
    rw [pickF]; have := pickF_length keep [] y
    split <;> simp at this ⊢ <;> omega
  | a :: x, b :: y => by
    rw [pickF]
    have h1 := pickF_length keep x (b :: y)
    have h2 := pickF_length keep (a :: x) y
    have h3 := pickF_length keep x y
    split
    · split <;> simp at h1 ⊢ <;> omega
    · split
      · split <;> simp at h2 ⊢ <;> omega
      · split <;> simp <;> omega
termination_by x y => x.length + y.length
theorem below_growN (W : World) (q : Nat) (os' : Array Obj) : Below W.heap.size W (Sort.grow (W.drewN q) os') :=
  ⟨rfl, rfl, rfl, by simp [Sort.grow, World.drewN], fun i hi => by simp [Sort.grow, World.drewN, Array.getElem?_append, hi]⟩
theorem order_below (x y : Int × Int) (W : World) : Calls Try.prog 81 #[.agg #[.int .i64 x.1, .int .i64 x.2], .agg #[.int .i64 y.1, .int .i64 y.2]] W fun e w' => e = .returned (.int .i64 (ordI x y)) ∧ Below W.heap.size W w' :=
  (order_any x y W).mono fun e w' ⟨he, q, os', h⟩ => ⟨he, by rw [h]; exact below_growN W q os'⟩
theorem ordI_gt (x y : Int × Int) : decide (0 < ordI x y) = cellLt y x := by
  unfold ordI cellLt Lib.compareInt
  by_cases h1 : x.2 < y.2
  · have h2 : ¬ y.2 < x.2 := by omega
    have h3 : ¬ y.2 = x.2 := by omega
    simp [h1, h2, h3]
  · by_cases h2 : y.2 < x.2
    · simp [h1, h2]
    · have h3 : x.2 = y.2 := by omega
      by_cases h4 : x.1 < y.1
      · have h5 : ¬ y.1 < x.1 := by omega
        simp [h3, h4, h5]
      · by_cases h5 : y.1 < x.1 <;> simp [h3, h4, h5]
theorem PickAt.below {w w' : World} {bk bo K : Nat} {out : List (Int × Int)} (h : PickAt w bk bo K out) (hb : Below w.heap.size w w') : PickAt w' bk bo K out := by
  obtain ⟨h1, h2, v, h3, h4⟩ := h
  exact ⟨h1, (hb.block _ (lt_of_block h2)).trans h2, v, (hb.block _ (lt_of_block h3)).trans h3, own_below h4 hb⟩
def lenS : Value → Nat
  | .slice _ n _ => n
  | _ => 0
theorem pickF_ab {keep : Bool → Bool → Bool} {a b : Int × Int} {x y : List (Int × Int)} (h : cellLt a b = true) : pickF keep (a :: x) (b :: y) = (if keep true false then [a] else []) ++ pickF keep x (b :: y) := by rw [pickF, if_pos h]
theorem pickF_ba {keep : Bool → Bool → Bool} {a b : Int × Int} {x y : List (Int × Int)} (h : cellLt a b = false) (h2 : cellLt b a = true) : pickF keep (a :: x) (b :: y) = (if keep false true then [b] else []) ++ pickF keep (a :: x) y := by rw [pickF, if_neg (by rw [h]; simp), if_pos h2]
theorem pickF_eq {keep : Bool → Bool → Bool} {a b : Int × Int} {x y : List (Int × Int)} (h : cellLt a b = false) (h2 : cellLt b a = false) : pickF keep (a :: x) (b :: y) = (if keep true true then [a] else []) ++ pickF keep x y := by rw [pickF, if_neg (by rw [h]; simp), if_neg (by rw [h2]; simp)]
theorem if_len {p : Bool} {a : Int × Int} : (if p then [a] else []).length ≤ 1 := by cases p <;> simp
set_option maxHeartbeats 4000000 in
theorem pick_any (K : Nat) (keep : Bool → Bool → Bool) (hK : Keeper K keep) (hK3 : K = 91 ∨ K = 94 ∨ K = 96) (zs ms : List (Int × Int)) (a a' : Option Addr) (cap cap' : Nat) (w : World) (hs : Sl w 2 16 a zs.length cap (zs.flatMap encCell)) (hs' : Sl w 2 16 a' ms.length cap' (ms.flatMap encCell)) :
    Calls Try.prog 90 #[.slice a zs.length cap, .slice a' ms.length cap', .func (.func K) #[] #[]] w (Picked w keep zs ms) := by
  have hadd := fun bk bo out c p q W h hl => add_any K keep hK hK3 bk bo out c p q W h hl
  have HADD := Lib.hid hadd
  have hmf : ∀ (fn : Fn) (first cap : Array Value) (w : World), (Instr.makeFunc fn first cap).run Try.prog w = .ok (.func fn first cap) w := fun _ _ _ _ => rfl
  obtain ⟨⟨xs, e1⟩, hX⟩ : ∃ R, R = tidyF zs := ⟨_, rfl⟩
  obtain ⟨⟨ys, e2⟩, hY⟩ : ∃ R, R = tidyF ms := ⟨_, rfl⟩
  have hxl : xs.length ≤ 4096 := by have := tidyF_length zs; rw [← hX] at this; exact this
  have hyl : ys.length ≤ 4096 := by have := tidyF_length ms; rw [← hY] at this; exact this
  have T1 := fun W (h : Sl W 2 16 a zs.length cap (zs.flatMap encCell)) => tidy_any zs a cap W h
  have T2 := fun W (h : Sl W 2 16 a' ms.length cap' (ms.flatMap encCell)) => tidy_any ms a' cap' W h
  unfold Tidied at T1 T2
  rw [← hX] at T1
  rw [← hY] at T2
  have HT1 := Lib.hid T1
  have HT2 := Lib.hid T2
  have HX := Lib.hid hX
  have HY := Lib.hid hY
  have HS := Lib.hid hs
  have HS' := Lib.hid hs'
  obtain ⟨n, hn⟩ : ∃ n, n = zs.length := ⟨_, rfl⟩
  obtain ⟨m, hm⟩ : ∃ m, m = ms.length := ⟨_, rfl⟩
  rw [← hn] at HS HT1 ⊢
  rw [← hm] at HS' HT2 ⊢
  clear hadd T1 T2 hX hY hs hs' hn hm
  go_enter Try.func90, Try.ntmps90
  go_wp2_with fail
  refine (HT1.out _ (HS.out.below (by omega) ((Below.refl _ _).alloc (Nat.le_refl _) _))).mono ?_
  rintro e w1 ⟨v1, rfl, hb1, ht1⟩
  have hB1 := ((Below.refl w.heap.size w).alloc (Nat.le_refl _) (.cells #[.func (.func K) #[] #[]] 132)).trans (hb1.mono (by simp))
  have hk1 := (hb1.block w.heap.size (by simp)).trans (blk_last w _ rfl)
  have C1 := Cut.of_tight ht1 (by omega)
  obtain ⟨a1, c1, rfl, _, _⟩ := ht1.form
  clear hb1 ht1
  by_cases he1 : e1 = 0
  · subst he1
    go_wp2_with fail
    refine (HT2.out _ (HS'.out.below (by omega) hB1)).mono ?_
    rintro e w2 ⟨v2, rfl, hb2, ht2⟩
    have hB2 := hB1.trans (hb2.mono hB1.size)
    have hk2 := (hb2.block w.heap.size (lt_of_block hk1)).trans hk1
    have C2 := Cut.of_tight ht2 (by omega)
    have C1 := C1.below hb2
    have C1' : Cut w2 w2.heap.size (.slice a1 xs.length c1) xs := by
      obtain ⟨x, y, h1, h2, h3⟩ := C1
      exact ⟨x, y, h1, h2, fun b o e => by have := h3 b o e; have := hb2.size; omega⟩
    obtain ⟨a2, c2, rfl, _, _⟩ := ht2.form
    clear hb2 ht2 C1 hB1 hk1
    by_cases he2 : e2 = 0
    · subst he2
      go_wp2_with fail
      have hres : Aside (mergeF keep zs ms = if 4096 < (pickF keep xs ys).length then ([], 5) else (pickF keep xs ys, 0)) := by
        show _ = _
        rw [mergeF, ← HX.out, ← HY.out, if_neg (by simp), if_neg (by simp)]
      have P0 : PickAt (w2.alloc (.cells #[.slice none 0 0] 22)) w.heap.size w2.heap.size K [] := ⟨lt_of_block hk2, blk_alloc hk2 _, _, blk_last w2 _ rfl, World.ownsRow_nil _ _ _ _⟩
      have hBo : Below w.heap.size w (w2.alloc (.cells #[.slice none 0 0] 22)) := hB2.alloc hB2.size _
      have C1 := C1'.below ((Below.refl _ _).alloc (Nat.le_refl _) (.cells #[.slice none 0 0] 22))
      have C2 := C2.below ((Below.refl _ _).alloc (Nat.le_refl _) (.cells #[.slice none 0 0] 22))
      obtain ⟨bo, hbo⟩ : ∃ bo, bo = w2.heap.size := ⟨_, rfl⟩
      have hbw : w.heap.size < bo := by rw [hbo]; exact lt_of_block hk2
      rw [← hbo] at P0 C1 C2 ⊢
      obtain ⟨W, hW⟩ : ∃ W, W = w2.alloc (.cells #[.slice none 0 0] 22) := ⟨_, rfl⟩
      rw [← hW] at P0 C1 C2 hBo ⊢
      clear hW hbo C1' hB2 hk2
      go_loopw [8, 10] (fun x y wr => ∃ X Y out : List (Int × Int), Cut wr bo x X ∧ Cut wr bo y Y ∧ Aside (pickF keep xs ys = out ++ pickF keep X Y) ∧ out.length + X.length + Y.length ≤ 8192 ∧ PickAt wr w.heap.size bo K out ∧ Below w.heap.size w wr) (fun x y _ => lenS x + lenS y)
      case atStart => exact ⟨xs, ys, [], C1, C2, rfl, by simp; omega, P0, hBo⟩
      case round =>
        obtain ⟨X, Y, out, hC1, hC2, HE, hlen, hP, hB⟩ := hrel
        clear C1 C2 P0 hBo hxl hyl
        have hO : ∀ (x y : Int × Int) (W : World), Calls Try.prog 81 #[.agg #[.int .i64 x.1, .int .i64 x.2], .agg #[.int .i64 y.1, .int .i64 y.2]] W fun e w' => e = .returned (.int .i64 (ordI x y)) ∧ Below W.heap.size W w' := order_below
        obtain ⟨nx, hnx⟩ : ∃ nx, nx = X.length := ⟨_, rfl⟩
        obtain ⟨ny, hny⟩ : ∃ ny, ny = Y.length := ⟨_, rfl⟩
        have HNX := Lib.hid hnx
        have HNY := Lib.hid hny
        clear hnx hny
        match X, Y with
        | [], [] =>
          obtain ⟨va, vc, rfl, _, _⟩ := hC1
          obtain ⟨va', vc', rfl, _, _⟩ := hC2
          rw [List.length_nil]
          have hE := HE.out
          rw [pickF, List.append_nil] at hE
          have hr2 := hres.out
          rw [hE] at hr2
          have HR2 := Lib.hid hr2
          obtain ⟨hPlt, hPt, v, hPb, hPo⟩ := hP
          obtain ⟨pa, pc, rfl⟩ := own_form hPo
          have x0 := Joins.cell_of_block hPb 0
          simp at x0
          have hPo' := Joins.ownsRow_le hPo (show w.heap.size ≤ bo + 1 by omega)
          have HPO := Lib.hid (Tight.of_own hPo')
          obtain ⟨no, hno⟩ : ∃ no, no = out.length := ⟨_, rfl⟩
          rw [← hno] at x0
          have HNO := Lib.hid hno
          clear hE hr2 hres hPt hPb hPo hPo' hno
          by_cases hbig : 4096 < no
          · have hb2 : (4096 : Int) < (no : Int) := by omega
            go_wp2_with fail
            refine bodyPost_ret (v := .tuple #[.slice none 0 0, .int .i64 5]) (by simp [results, Try.results90, go_sem]) rfl ⟨.slice none 0 0, ?_, hB, ?_⟩
            · rw [HR2.out, if_pos (by rw [← HNO.out]; exact hbig)]
            · rw [HR2.out, if_pos (by rw [← HNO.out]; exact hbig)]; exact Tight.nil _ _
          · have hb2 : (no : Int) ≤ 4096 := by omega
            go_wp2_with fail
            refine bodyPost_ret (v := .tuple #[.slice pa no pc, .int .i64 0]) (by simp [results, Try.results90, go_sem]) rfl ⟨.slice pa no pc, ?_, hB, ?_⟩
            · rw [HR2.out, if_neg (by rw [← HNO.out]; exact hbig)]
            · rw [HR2.out, if_neg (by rw [← HNO.out]; exact hbig), HNO.out]; exact HPO.out
        | x :: X, [] =>
          obtain ⟨va', vc', rfl, _, _⟩ := id hC2
          rw [List.length_nil]
          obtain ⟨b, o, c, rfl, hcap, e0, e1', hbw', hbB, ht⟩ := hC1.head
          obtain ⟨x1, x2⟩ := x
          dsimp only at e0 e1'
          obtain ⟨k, hk⟩ : ∃ k, k = X.length := ⟨_, rfl⟩
          rw [← hk] at hcap ⊢ ht
          have HK := Lib.hid hk
          have HTL := Lib.hid ht
          clear hk ht
          have w0 : (0 : Int) < (k : Int) + 1 := by omega
          go_wp2_with fail
          refine wp_region_grow (by kernel_rfl) (by kernel_rfl) ?_
          repeat (go_big_quiet_step (fail))
          refine wpQuiet_nil ?_
          intro _ hw'
          obtain ⟨zA, hz⟩ := hw'
          subst hz
          have hP := hP.below zA.below
          have hC1 := hC1.below zA.below
          have hC2 := hC2.below zA.below
          have hB := hB.trans (zA.below.mono hB.size)
          have e0 := zA.cell e0
          have e1' := zA.cell e1'
          have ht := HTL.out.below zA.below
          rw [HK.out] at ht
          have HTL2 := Lib.hid ht
          clear ht hC1
          go_wp2_with fail
          refine (HADD.out _ _ out (x1, x2) true false _ hP (by omega)).mono ?_
          rintro e w3 ⟨rfl, hP3, hk3⟩
          have hC1 := HTL2.out.keeps hk3
          have hC2 := hC2.keeps hk3
          have hB3 := hB.trans ((hk3.toBelow (fun i h => h) (by obtain ⟨v, h, _⟩ := hP.box; exact Nat.le_of_lt (lt_of_block h))).mono (Nat.le_of_lt hbw))
          clear hB hP hk3
          go_wp2_with fail
          refine ⟨⟨X, [], out ++ (if keep true false = true then [(x1, x2)] else []), ?_, ?_, ?_, ?_, hP3, hB3⟩, ?_⟩
          · first | exact hC1 | (rw [HK.out]; simpa using hC1)
          · first | exact hC2 | (rw [HKY.out]; simpa using hC2)
          · show _ = _; rw [HE.out, pickF, List.append_assoc]
          · rw [List.length_append]; have := if_len (p := keep true false) (a := (x1, x2)); have := HNX.out; have := HNY.out; simp only [List.length_cons, List.length_nil] at *; omega
          · have := HNX.out; have := HNY.out; simp [lenS] at *; try omega
        | [], y :: Y =>
          obtain ⟨va, vc, rfl, _, _⟩ := id hC1
          rw [List.length_nil]
          obtain ⟨b2, o2, c2', rfl, hcap2, f0, f1', hbw2', hbB2, hty⟩ := hC2.head
          obtain ⟨y1, y2⟩ := y
          dsimp only at f0 f1'
          obtain ⟨k2, hk2⟩ : ∃ k2, k2 = Y.length := ⟨_, rfl⟩
          rw [← hk2] at hcap2 ⊢ hty
          have HKY := Lib.hid hk2
          have HTY := Lib.hid hty
          clear hk2 hty
          have w2' : (0 : Int) < (k2 : Int) + 1 := by omega
          have w3' : ((k2 : Int) + 1 == 0) = false := by simp <;> omega
          have w4' : decide ((0 : Int) < (k2 : Int) + 1) = true := by simp <;> omega
          go_wp2_with fail
          refine wp_region_grow (by kernel_rfl) (by kernel_rfl) ?_
          repeat (go_big_quiet_step (fail))
          refine wpQuiet_nil ?_
          intro _ hw'
          obtain ⟨zA, hz⟩ := hw'
          subst hz
          have hP := hP.below zA.below
          have hC1 := hC1.below zA.below
          have hC2 := hC2.below zA.below
          have hB := hB.trans (zA.below.mono hB.size)
          have f0 := zA.cell f0
          have f1' := zA.cell f1'
          go_wp2_with fail
          refine wp_region_grow (by kernel_rfl) (by kernel_rfl) ?_
          repeat (go_big_quiet_step (fail))
          refine wpQuiet_nil ?_
          intro _ hw'
          obtain ⟨zB, hz⟩ := hw'
          subst hz
          have hP := hP.below zB.below
          have hC1 := hC1.below zB.below
          have hC2 := hC2.below zB.below
          have hB := hB.trans (zB.below.mono hB.size)
          have f0 := zB.cell f0
          have f1' := zB.cell f1'
          have ht := ((HTY.out.below zA.below).below zB.below)
          rw [HKY.out] at ht
          have HTY2 := Lib.hid ht
          clear ht
          clear hC2
          go_wp2_with fail
          refine (HADD.out _ _ out (y1, y2) false true _ hP (by omega)).mono ?_
          rintro e w3 ⟨rfl, hP3, hk3⟩
          have hC1 := hC1.keeps hk3
          have hC2 := HTY2.out.keeps hk3
          have hB3 := hB.trans ((hk3.toBelow (fun i h => h) (by obtain ⟨v, h, _⟩ := hP.box; exact Nat.le_of_lt (lt_of_block h))).mono (Nat.le_of_lt hbw))
          clear hB hP hk3
          go_wp2_with fail
          refine ⟨⟨[], Y, out ++ (if keep false true = true then [(y1, y2)] else []), ?_, ?_, ?_, ?_, hP3, hB3⟩, ?_⟩
          · first | exact hC1 | (rw [HK.out]; simpa using hC1)
          · first | exact hC2 | (rw [HKY.out]; simpa using hC2)
          · show _ = _; rw [HE.out, pickF, List.append_assoc]
          · rw [List.length_append]; have := if_len (p := keep false true) (a := (y1, y2)); have := HNX.out; have := HNY.out; simp only [List.length_cons, List.length_nil] at *; omega
          · have := HNX.out; have := HNY.out; simp [lenS] at *; try omega
        | x :: X, y :: Y =>
          obtain ⟨b, o, c, rfl, hcap, e0, e1', hbw', hbB, ht⟩ := hC1.head
          obtain ⟨x1, x2⟩ := x
          dsimp only at e0 e1'
          obtain ⟨k, hk⟩ : ∃ k, k = X.length := ⟨_, rfl⟩
          rw [← hk] at hcap ⊢ ht
          have HK := Lib.hid hk
          have HTL := Lib.hid ht
          clear hk ht
          have w0 : (0 : Int) < (k : Int) + 1 := by omega
          have w1 : ((k : Int) + 1 == 0) = false := by simp <;> omega
          have w2 : decide ((0 : Int) < (k : Int) + 1) = true := by simp <;> omega
          obtain ⟨b2, o2, c2', rfl, hcap2, f0, f1', hbw2', hbB2, hty⟩ := hC2.head
          obtain ⟨y1, y2⟩ := y
          dsimp only at f0 f1'
          obtain ⟨k2, hk2⟩ : ∃ k2, k2 = Y.length := ⟨_, rfl⟩
          rw [← hk2] at hcap2 ⊢ hty
          have HKY := Lib.hid hk2
          have HTY := Lib.hid hty
          clear hk2 hty
          have w2' : (0 : Int) < (k2 : Int) + 1 := by omega
          have w3' : ((k2 : Int) + 1 == 0) = false := by simp <;> omega
          have w4' : decide ((0 : Int) < (k2 : Int) + 1) = true := by simp <;> omega
          obtain ⟨r, hr⟩ : ∃ r, r = ordI (x1, x2) (y1, y2) := ⟨_, rfl⟩
          have q1 := ordI_lt (x1, x2) (y1, y2)
          have q2 := ordI_gt (x1, x2) (y1, y2)
          unfold ltOf at q1
          have hO2 := fun W => hO (x1, x2) (y1, y2) W
          rw [← hr] at q1 q2 hO2
          clear hr hO
          by_cases hxy : cellLt (x1, x2) (y1, y2) = true
          · have hr1 : r < 0 := by rw [hxy] at q1; simpa using q1
            have HO := Lib.hid hO2
            have HXY := Lib.hid hxy
            clear q1 q2 hO2 hxy
            go_wp2_with fail
            have ge0 := Grow.cells e0
            have ge1' := Grow.cells e1'
            have gf0 := Grow.cells f0
            have gf1' := Grow.cells f1'
            refine wp_region_grow (by kernel_rfl) (by kernel_rfl) ?_
            repeat (go_big_quiet_step ((go_at_call 81; with_reducible exact grow_of (HO.out _))))
            refine wpQuiet_nil ?_
            intro _ hw'
            obtain ⟨zA, hz⟩ := hw'
            subst hz
            clear ge0 ge1' gf0 gf1'
            have hP := hP.below zA.below
            have hC1 := hC1.below zA.below
            have hC2 := hC2.below zA.below
            have hB := hB.trans (zA.below.mono hB.size)
            have e0 := zA.cell e0
            have e1' := zA.cell e1'
            have ht := (HTL.out.below zA.below)
            rw [HK.out] at ht
            have HTL2 := Lib.hid ht
            clear ht
            clear hC1
            go_wp2_with fail
            refine (HADD.out _ _ out (x1, x2) true false _ hP (by omega)).mono ?_
            rintro e w3 ⟨rfl, hP3, hk3⟩
            have hC1 := HTL2.out.keeps hk3
            have hC2 := hC2.keeps hk3
            have hB3 := hB.trans ((hk3.toBelow (fun i h => h) (by obtain ⟨v, h, _⟩ := hP.box; exact Nat.le_of_lt (lt_of_block h))).mono (Nat.le_of_lt hbw))
            clear hB hP hk3
            go_wp2_with fail
            refine ⟨⟨X, (y1, y2) :: Y, out ++ (if keep true false = true then [(x1, x2)] else []), ?_, ?_, ?_, ?_, hP3, hB3⟩, ?_⟩
            · first | exact hC1 | (rw [HK.out]; simpa using hC1)
            · first | exact hC2 | (rw [HKY.out]; simpa using hC2)
            · show _ = _; rw [HE.out, pickF_ab HXY.out, List.append_assoc]
            · rw [List.length_append]; have := if_len (p := keep true false) (a := (x1, x2)); have := HNX.out; have := HNY.out; simp only [List.length_cons, List.length_nil] at *; omega
            · have := HNX.out; have := HNY.out; simp [lenS] at *; try omega
          · have hxy : cellLt (x1, x2) (y1, y2) = false := by simpa using hxy
            have hr1 : 0 ≤ r := by rw [hxy] at q1; simpa using q1
            by_cases hyx : cellLt (y1, y2) (x1, x2) = true
            · have hr2 : 0 < r := by rw [hyx] at q2; simpa using q2
              have HO := Lib.hid hO2
              have HXY := Lib.hid hxy
              have HYX := Lib.hid hyx
              clear q1 q2 hO2 hxy hyx
              go_wp2_with fail
              have ge0 := Grow.cells e0
              have ge1' := Grow.cells e1'
              have gf0 := Grow.cells f0
              have gf1' := Grow.cells f1'
              refine wp_region_grow (by kernel_rfl) (by kernel_rfl) ?_
              repeat (go_big_quiet_step ((go_at_call 81; with_reducible exact grow_of (HO.out _))))
              refine wpQuiet_nil ?_
              intro _ hw'
              obtain ⟨zA, hz⟩ := hw'
              subst hz
              clear ge0 ge1' gf0 gf1'
              have hP := hP.below zA.below
              have hC1 := hC1.below zA.below
              have hC2 := hC2.below zA.below
              have hB := hB.trans (zA.below.mono hB.size)
              have e0 := zA.cell e0
              have e1' := zA.cell e1'
              have f0 := zA.cell f0
              have f1' := zA.cell f1'
              go_wp2_with fail
              have ge0 := Grow.cells e0
              have ge1' := Grow.cells e1'
              have gf0 := Grow.cells f0
              have gf1' := Grow.cells f1'
              refine wp_region_grow (by kernel_rfl) (by kernel_rfl) ?_
              repeat (go_big_quiet_step ((go_at_call 81; with_reducible exact grow_of (HO.out _))))
              refine wpQuiet_nil ?_
              intro _ hw'
              obtain ⟨zB, hz⟩ := hw'
              subst hz
              clear ge0 ge1' gf0 gf1'
              have hP := hP.below zB.below
              have hC1 := hC1.below zB.below
              have hC2 := hC2.below zB.below
              have hB := hB.trans (zB.below.mono hB.size)
              have e0 := zB.cell e0
              have e1' := zB.cell e1'
              have f0 := zB.cell f0
              have f1' := zB.cell f1'
              have ht := ((HTY.out.below zA.below).below zB.below)
              rw [HKY.out] at ht
              have HTY2 := Lib.hid ht
              clear ht
              clear hC2
              go_wp2_with fail
              refine (HADD.out _ _ out (y1, y2) false true _ hP (by omega)).mono ?_
              rintro e w3 ⟨rfl, hP3, hk3⟩
              have hC1 := hC1.keeps hk3
              have hC2 := HTY2.out.keeps hk3
              have hB3 := hB.trans ((hk3.toBelow (fun i h => h) (by obtain ⟨v, h, _⟩ := hP.box; exact Nat.le_of_lt (lt_of_block h))).mono (Nat.le_of_lt hbw))
              clear hB hP hk3
              go_wp2_with fail
              refine ⟨⟨(x1, x2) :: X, Y, out ++ (if keep false true = true then [(y1, y2)] else []), ?_, ?_, ?_, ?_, hP3, hB3⟩, ?_⟩
              · first | exact hC1 | (rw [HK.out]; simpa using hC1)
              · first | exact hC2 | (rw [HKY.out]; simpa using hC2)
              · show _ = _; rw [HE.out, pickF_ba HXY.out HYX.out, List.append_assoc]
              · rw [List.length_append]; have := if_len (p := keep false true) (a := (y1, y2)); have := HNX.out; have := HNY.out; simp only [List.length_cons, List.length_nil] at *; omega
              · have := HNX.out; have := HNY.out; simp [lenS] at *; try omega
            · have hyx : cellLt (y1, y2) (x1, x2) = false := by simpa using hyx
              obtain rfl : r = 0 := by rw [hyx] at q2; have : ¬ 0 < r := by simpa using q2
                                       omega
              have HO := Lib.hid hO2
              have HXY := Lib.hid hxy
              have HYX := Lib.hid hyx
              clear q1 q2 hO2 hxy hyx hr1
              go_wp2_with fail
              have ge0 := Grow.cells e0
              have ge1' := Grow.cells e1'
              have gf0 := Grow.cells f0
              have gf1' := Grow.cells f1'
              refine wp_region_grow (by kernel_rfl) (by kernel_rfl) ?_
              repeat (go_big_quiet_step ((go_at_call 81; with_reducible exact grow_of (HO.out _))))
              refine wpQuiet_nil ?_
              intro _ hw'
              obtain ⟨zA, hz⟩ := hw'
              subst hz
              clear ge0 ge1' gf0 gf1'
              have hP := hP.below zA.below
              have hC1 := hC1.below zA.below
              have hC2 := hC2.below zA.below
              have hB := hB.trans (zA.below.mono hB.size)
              have e0 := zA.cell e0
              have e1' := zA.cell e1'
              have f0 := zA.cell f0
              have f1' := zA.cell f1'
              go_wp2_with fail
              have ge0 := Grow.cells e0
              have ge1' := Grow.cells e1'
              have gf0 := Grow.cells f0
              have gf1' := Grow.cells f1'
              refine wp_region_grow (by kernel_rfl) (by kernel_rfl) ?_
              repeat (go_big_quiet_step ((go_at_call 81; with_reducible exact grow_of (HO.out _))))
              refine wpQuiet_nil ?_
              intro _ hw'
              obtain ⟨zB, hz⟩ := hw'
              subst hz
              clear ge0 ge1' gf0 gf1'
              have hP := hP.below zB.below
              have hC1 := hC1.below zB.below
              have hC2 := hC2.below zB.below
              have hB := hB.trans (zB.below.mono hB.size)
              have e0 := zB.cell e0
              have e1' := zB.cell e1'
              have f0 := zB.cell f0
              have f1' := zB.cell f1'
              have ht := ((HTY.out.below zA.below).below zB.below)
              rw [HKY.out] at ht
              have HTY2 := Lib.hid ht
              clear ht
              have ht := ((HTL.out.below zA.below).below zB.below)
              rw [HK.out] at ht
              have HTL2 := Lib.hid ht
              clear ht
              clear hC2 hC1
              go_wp2_with fail
              refine (HADD.out _ _ out (x1, x2) true true _ hP (by omega)).mono ?_
              rintro e w3 ⟨rfl, hP3, hk3⟩
              have hC1 := HTL2.out.keeps hk3
              have hC2 := HTY2.out.keeps hk3
              have hB3 := hB.trans ((hk3.toBelow (fun i h => h) (by obtain ⟨v, h, _⟩ := hP.box; exact Nat.le_of_lt (lt_of_block h))).mono (Nat.le_of_lt hbw))
              clear hB hP hk3
              have hP := hP3
              have hB := hB3
              clear hP3 hB3
              go_wp2_with fail
              refine wp_region_grow (by kernel_rfl) (by kernel_rfl) ?_
              repeat (go_big_quiet_step (fail))
              refine wpQuiet_nil ?_
              intro _ hw'
              obtain ⟨zC, hz⟩ := hw'
              subst hz
              have hP := hP.below zC.below
              have hC1 := hC1.below zC.below
              have hC2 := hC2.below zC.below
              have hB := hB.trans (zC.below.mono hB.size)
              go_wp2_with fail
              refine ⟨⟨X, Y, out ++ (if keep true true = true then [(x1, x2)] else []), ?_, ?_, ?_, ?_, hP, hB⟩, ?_⟩
              · first | exact hC1 | (rw [HK.out]; simpa using hC1)
              · first | exact hC2 | (rw [HKY.out]; simpa using hC2)
              · show _ = _; rw [HE.out, pickF_eq HXY.out HYX.out, List.append_assoc]
              · rw [List.length_append]; have := if_len (p := keep true true) (a := (x1, x2)); have := HNX.out; have := HNY.out; simp only [List.length_cons, List.length_nil] at *; omega
              · have := HNX.out; have := HNY.out; simp [lenS] at *; try omega
    · have hz : (e2 == 0) = false := by simp [he2]
      have hres : mergeF keep zs ms = ([], e2) := by
        rw [mergeF, ← HX.out, ← HY.out, if_neg (by simp), if_pos (by simpa using he2)]
      have HR := Lib.hid hres
      clear hres C1' C2
      go_wp2_with fail
      refine bodyPost_ret (v := .tuple #[.slice none 0 0, .int .i64 e2]) (by simp [results, Try.results90, go_sem]) rfl ⟨.slice none 0 0, by rw [HR.out], hB2, by rw [HR.out]; exact Tight.nil _ _⟩
  · have hz : (e1 == 0) = false := by simp [he1]
    have hres : mergeF keep zs ms = ([], e1) := by
      rw [mergeF, ← HX.out, if_pos (by simpa using he1)]
    have HR := Lib.hid hres
    clear hres C1
    go_wp2_with fail
    refine bodyPost_ret (v := .tuple #[.slice none 0 0, .int .i64 e1]) (by simp [results, Try.results90, go_sem]) rfl ⟨.slice none 0 0, by rw [HR.out], hB1, by rw [HR.out]; exact Tight.nil _ _⟩
end Go.Proofs.Ytffgpjkkgndkiaa
