/-
  rule.Run and the document's Run: Next, so many times; quad's walker: each.
-/
import Derived.Test.YtabhpbkkjijfjaaZLeapStepsNextRef
import Derived.Test.YtabhpbkkjijfjaaZLeapStepsQWEmpty
namespace Go.Proofs.Ytabhpbkkjijfjaa
set_option maxRecDepth 100000
open Go.RowKit

def runF (b l : Int) (zs : List (Int × Int)) : Nat → List (Int × Int) × Int
  | 0 => tidyF zs
  | n + 1 => if (runF b l zs n).2 = 0 then nextF b l (runF b l zs n).1 else ([], (runF b l zs n).2)
theorem nextF_err (b l : Int) (zs : List (Int × Int)) : (nextF b l zs).2 = 0 ∨ ((nextF b l zs).2 ≠ 0 ∧ (nextF b l zs).1 = []) := by
  unfold nextF
  split
  · exact .inr ⟨by simp, rfl⟩
  · split
    · next h => exact .inr ⟨h, rfl⟩
    · exact tidyF_err _
theorem nextF_length (b l : Int) (zs : List (Int × Int)) : (nextF b l zs).1.length ≤ 4096 := by
  unfold nextF
  split
  · simp
  · split
    · simp
    · exact tidyF_length _
theorem runF_err (b l : Int) (zs : List (Int × Int)) (n : Nat) : (runF b l zs n).2 = 0 ∨ ((runF b l zs n).2 ≠ 0 ∧ (runF b l zs n).1 = []) := by
  cases n with
  | zero => exact tidyF_err _
  | succ n =>
    rw [runF]
    split
    · exact nextF_err _ _ _
    · next h => exact .inr ⟨h, rfl⟩
theorem runF_length (b l : Int) (zs : List (Int × Int)) (n : Nat) : (runF b l zs n).1.length ≤ 4096 := by
  cases n with
  | zero => exact tidyF_length _
  | succ n =>
    rw [runF]
    split
    · exact nextF_length _ _ _
    · simp
theorem runF_stop {b l : Int} {zs : List (Int × Int)} {i : Nat} {xs : List (Int × Int)} {er : Int} (h : (xs, er) = runF b l zs i) (he : er ≠ 0) : ∀ c, runF b l zs (i + c) = ([], er)
  | 0 => by
    rcases runF_err b l zs i with h1 | ⟨_, h1⟩
    · rw [← h] at h1; exact absurd h1 he
    · rw [← h] at h1
      rw [Nat.add_zero, ← h]
      exact Prod.ext h1 rfl
  | c + 1 => by
    rw [← Nat.add_assoc, runF, runF_stop h he c, if_neg he]
def ranF (b l : Int) (zs : List (Int × Int)) (n : Int) : List (Int × Int) × Int :=
  if n < 0 ∨ 256 < n then ([], 3) else if goodF b l = false then ([], 4) else runF b l zs n.toNat
theorem ranF_length (b l : Int) (zs : List (Int × Int)) (n : Int) : (ranF b l zs n).1.length ≤ 4096 := by
  unfold ranF
  split
  · simp
  · split
    · simp
    · exact runF_length _ _ _ _
def Ran (w : World) (b l : Int) (zs : List (Int × Int)) (n : Int) (e : Ending) (w' : World) : Prop :=
  ∃ v, e = .returned (.tuple #[v, .int .i64 (ranF b l zs n).2]) ∧ Below w.heap.size w w' ∧ Tight w.heap.size w' v (ranF b l zs n).1
set_option maxHeartbeats 2000000 in
theorem refRunN_any (rb rl : Int) (zs : List (Int × Int)) (a : Option Addr) (cap : Nat) : ∀ (m : Nat), m ≤ 256 → ∀ (w : World), Sl w 2 16 a zs.length cap (zs.flatMap encCell) →
    Calls Try.prog 8 #[.agg #[.int .i64 rb, .int .i64 rl], .slice a zs.length cap, .int .i64 m] w (Ran w rb rl zs m) := by
  intro m
  obtain ⟨q, hq⟩ : ∃ q, q = zs.length := ⟨_, rfl⟩
  have hgd := fun W => refGood_any rb rl W
  obtain ⟨g, hg⟩ : ∃ g, g = goodF rb rl := ⟨_, rfl⟩
  rw [← hg] at hgd
  have HGD := Lib.hid hgd
  have HG := Lib.hid hg
  clear hgd hg
  cases g
  · intro hm w hs
    have hres : ranF rb rl zs m = ([], 4) := by rw [ranF, if_neg (by omega), if_pos HG.out.symm]
    have HR := Lib.hid hres
    rw [← hq]
    clear hres hq hs
    go_enter Try.func8, Try.ntmps8
    go_wp2_with fail
    refine (HGD.out _).mono ?_
    rintro e w1 ⟨rfl, hb⟩
    have hB := ((Below.refl w.heap.size w).alloc (Nat.le_refl _) (.cells #[.int .i64 rb, .int .i64 rl] 23)).trans (hb.mono (by simp))
    clear hb
    go_wp2_with fail
    refine bodyPost_ret (v := .tuple #[.slice none 0 0, .int .i64 4]) (by simp [results, Try.results8, go_sem]) rfl ⟨.slice none 0 0, by rw [HR.out], hB, by rw [HR.out]; exact Tight.nil _ _⟩
  · induction m with
    | zero =>
      intro hm w hs
      have hres : ranF rb rl zs (0 : Nat) = tidyF zs := by rw [ranF, if_neg (by omega), if_neg (by rw [← HG.out]; simp)]; rfl
      have T1 := fun W (h : Sl W 2 16 a zs.length cap (zs.flatMap encCell)) => refTidy_any zs a cap W h
      unfold Tidied at T1
      obtain ⟨⟨xs, e1⟩, hX⟩ : ∃ R, R = tidyF zs := ⟨_, rfl⟩
      rw [← hX] at T1 hres
      rw [← hq] at T1 hs ⊢
      have HT1 := Lib.hid T1
      have HR := Lib.hid hres
      have HS := Lib.hid hs
      rw [show ((0 : Nat) : Int) = 0 from rfl] at HR ⊢
      clear hres T1 hX hq hs
      go_enter Try.func8, Try.ntmps8
      go_wp2_with fail
      refine (HGD.out _).mono ?_
      rintro e w0 ⟨rfl, hb⟩
      have hB0 := ((Below.refl w.heap.size w).alloc (Nat.le_refl _) (.cells #[.int .i64 rb, .int .i64 rl] 23)).trans (hb.mono (by simp))
      clear hb
      go_wp2_with fail
      refine (HT1.out _ (HS.out.below (by omega) hB0)).mono ?_
      rintro e w1 ⟨v1, rfl, hb1, ht1⟩
      have hB1 := hB0.trans (hb1.mono hB0.size)
      have HT := Lib.hid (ht1.mono hB0.size)
      clear hb1 hB0 ht1
      go_wp2_with fail
      refine bodyPost_ret (v := .tuple #[v1, .int .i64 e1]) (by simp [results, Try.results8, go_sem]) rfl ⟨v1, by rw [HR.out], hB1, by rw [HR.out]; exact HT.out⟩
    | succ m ih =>
      intro hm w hs
      have ih := ih (by omega)
      have hres0 : ranF rb rl zs m = runF rb rl zs m := by rw [ranF, if_neg (by omega), if_neg (by rw [← HG.out]; simp)]; rfl
      have hres : ranF rb rl zs (m + 1 : Nat) = runF rb rl zs (m + 1) := by rw [ranF, if_neg (by omega), if_neg (by rw [← HG.out]; simp)]; rfl
      unfold Ran at ih
      rw [hres0] at ih
      obtain ⟨⟨xs, er⟩, hX⟩ : ∃ R, R = runF rb rl zs m := ⟨_, rfl⟩
      have hxl : xs.length ≤ 4096 := by have := runF_length rb rl zs m; rw [← hX] at this; exact this
      rw [← hX] at ih
      obtain ⟨n, hn⟩ : ∃ n : Int, n = (m + 1 : Nat) := ⟨_, rfl⟩
      rw [← hn] at hres ⊢
      have hn0 : 0 < n := by omega
      have hn2 : n ≤ 256 := by omega
      have hz0 : (n == 0) = false := by simp; omega
      have hnm : n - 1 = (m : Int) := by omega
      rw [← hq] at ih hs ⊢
      have HIH := Lib.hid ih
      have HR := Lib.hid hres
      have HS := Lib.hid hs
      have HX := Lib.hid hX
      clear hres hres0 hX hq hs hn ih
      go_enter Try.func8, Try.ntmps8
      go_wp2_with fail
      refine (HGD.out _).mono ?_
      rintro e w0 ⟨rfl, hb⟩
      have hB0 := ((Below.refl w.heap.size w).alloc (Nat.le_refl _) (.cells #[.int .i64 rb, .int .i64 rl] 23)).trans (hb.mono (by simp))
      have hr0 := (hb.block w.heap.size (by simp)).trans (blk_last w _ rfl)
      have r0 := Joins.cell_of_block hr0 0
      have r1 := Joins.cell_of_block hr0 1
      simp at r0 r1
      clear hb
      go_wp2_with fail
      refine (HIH.out _ (HS.out.below (by omega) hB0)).mono ?_
      rintro e w1 ⟨v1, rfl, hb1, ht1⟩
      have hB1 := hB0.trans (hb1.mono hB0.size)
      have hr1 := (hb1.block _ (lt_of_block hr0)).trans hr0
      clear r0 r1
      have r0 := Joins.cell_of_block hr1 0
      have r1 := Joins.cell_of_block hr1 1
      simp at r0 r1
      obtain ⟨a1, c1, rfl, _, _⟩ := ht1.form
      have HSL := Lib.hid (ht1.sl (by omega))
      clear hb1 hB0 hr0 ht1
      by_cases he : er = 0
      · subst he
        have hN := fun W h => refNext_any rb rl xs a1 c1 W h
        unfold Nexted at hN
        obtain ⟨⟨ys, e2⟩, hY⟩ : ∃ R, R = nextF rb rl xs := ⟨_, rfl⟩
        rw [← hY] at hN
        have HN := Lib.hid hN
        have HR2 : Aside (ranF rb rl zs n = (ys, e2)) := by show _ = _; rw [HR.out, runF, ← HX.out, if_pos rfl]; exact hY.symm
        obtain ⟨nx, hnx⟩ : ∃ nx, nx = xs.length := ⟨_, rfl⟩
        rw [← hnx] at HN HSL ⊢
        clear hN hY hnx
        go_wp2_with fail
        refine (HN.out _ HSL.out).mono ?_
        rintro e w2 ⟨v2, rfl, hb2, ht2⟩
        have HT2 := Lib.hid (ht2.mono hB1.size)
        have hB2 := hB1.trans (hb2.mono hB1.size)
        clear ht2 hb2 r0 r1
        go_wp2_with fail
        refine bodyPost_ret (v := .tuple #[v2, .int .i64 e2]) (by simp [results, Try.results8, go_sem]) rfl ⟨v2, by rw [HR2.out], hB2, by rw [HR2.out]; exact HT2.out⟩
      · have hz : (er == 0) = false := by simp [he]
        have HR2 : Aside (ranF rb rl zs n = ([], er)) := by show _ = _; rw [HR.out]; exact runF_stop HX.out he 1
        go_wp2_with fail
        refine bodyPost_ret (v := .tuple #[.slice none 0 0, .int .i64 er]) (by simp [results, Try.results8, go_sem]) rfl ⟨.slice none 0 0, by rw [HR2.out], hB1, by rw [HR2.out]; exact Tight.nil _ _⟩
set_option maxHeartbeats 1000000 in
theorem refRun_any (rb rl : Int) (zs : List (Int × Int)) (n : Int) (a : Option Addr) (cap : Nat) (w : World) (hs : Sl w 2 16 a zs.length cap (zs.flatMap encCell)) :
    Calls Try.prog 8 #[.agg #[.int .i64 rb, .int .i64 rl], .slice a zs.length cap, .int .i64 n] w (Ran w rb rl zs n) := by
  by_cases hin : 0 ≤ n ∧ n ≤ 256
  · obtain ⟨m, rfl⟩ : ∃ m : Nat, n = m := ⟨n.toNat, by omega⟩
    exact refRunN_any rb rl zs a cap m (by omega) w hs
  obtain ⟨q, hq⟩ : ∃ q, q = zs.length := ⟨_, rfl⟩
  have hres : ranF rb rl zs n = ([], 3) := by rw [ranF, if_pos (by omega)]
  have HR := Lib.hid hres
  rw [← hq]
  clear hres hq hs
  rcases (show n < 0 ∨ (0 ≤ n ∧ 256 < n) by omega) with h | ⟨h0, h⟩ <;> clear hin
  all_goals
    go_enter Try.func8, Try.ntmps8
    go_wp2_with fail
    refine bodyPost_ret (v := .tuple #[.slice none 0 0, .int .i64 3]) (by simp [results, Try.results8, go_sem]) rfl ⟨.slice none 0 0, by rw [HR.out], (Below.refl _ _).alloc (Nat.le_refl _) _, by rw [HR.out]; exact Tight.nil _ _⟩
end Go.Proofs.Ytabhpbkkjijfjaa
namespace Go.Proofs.Ytabhpbkkjijfjaa
set_option maxRecDepth 100000
open Go.RowKit

/-- Everything that each has in hand. -/
structure ESt (b t : Nat) (S : ArS) (F : Nat → Prop) (wb mb c nn : Nat) (f : Int → Option Value) (zs : CellL) (v : Value) (w : World) : Prop where
  st : WSt b t S F wb mb nn f w
  out : OSt c zs v w
  dc : c ≠ wb ∧ c ≠ mb ∧ ¬ F c
  dv : ∀ q, v.ownBlock = some q → q ≠ wb ∧ q ≠ mb ∧ ¬ F q
/-- What it may change. -/
def EFoot (wb mb c : Nat) (v : Value) (i : Nat) : Prop := i = wb ∨ i = mb ∨ i = c ∨ v.ownBlock = some i
/-- Behind some of its work. -/
structure ERel (b t : Nat) (S : ArS) (F : Nat → Prop) (wb mb c : Nat) (v0 : Value) (w0 : World) (nn : Nat) (f : Int → Option Value) (zs : CellL) (v : Value) (w : World) : Prop where
  st : ESt b t S F wb mb c nn f zs v w
  own : ∀ q, v.ownBlock = some q → v0.ownBlock = some q ∨ w0.heap.size ≤ q
  keep : Keeps (EFoot wb mb c v0) w0 w
section
variable {b t : Nat} {S : ArS} {F : Nat → Prop} {wb mb c nn nn' : Nat} {f f' : Int → Option Value} {zs zs' : CellL} {v0 v v' : Value} {w0 w w' : World}
theorem ERel.refl (h : ESt b t S F wb mb c nn f zs v w) : ERel b t S F wb mb c v w nn f zs v w := ⟨h, fun _ hq => .inl hq, Keeps.refl _ _⟩
theorem ERel.trans (h : ERel b t S F wb mb c v0 w0 nn f zs v w) (g : ERel b t S F wb mb c v w nn' f' zs' v' w') : ERel b t S F wb mb c v0 w0 nn' f' zs' v' w' :=
  ⟨g.st, fun q hq => (g.own q hq).elim (h.own q) (fun h1 => .inr (Nat.le_trans h.keep.size h1)), h.keep.trans g.keep fun i hi hh => by
    rcases hh with h1 | h1 | h1 | h1
    · exact .inl h1
    · exact .inr (.inl h1)
    · exact .inr (.inr (.inl h1))
    · rcases h.own i h1 with h2 | h2
      · exact .inr (.inr (.inr h2))
      · omega⟩
/-- The walker's own work. -/
theorem ERel.walked (h : ERel b t S F wb mb c v0 w0 nn f zs v w) (hs : WSt b t S F wb mb nn' f' w') (hk : Keeps (fun i => i = wb ∨ i = mb) w w') : ERel b t S F wb mb c v0 w0 nn' f' zs v w' := by
  have ho : OSt c zs v w' := h.st.out.keep hk (fun e => by rcases e with e | e; exact h.st.dc.1 e; exact h.st.dc.2.1 e) (fun q hq e => by rcases e with e | e; exact (h.st.dv q hq).1 e; exact (h.st.dv q hq).2.1 e)
  exact ⟨⟨hs, ho, h.st.dc, h.st.dv⟩, h.own, h.keep.trans hk fun i _ e => by rcases e with e | e; exact .inl e; exact .inr (.inl e)⟩
/-- A cell put. -/
theorem ERel.put (h : ERel b t S F wb mb c v0 w0 nn f zs v w) (ho : OSt c zs' v' w') (hv : ∀ q, v'.ownBlock = some q → v.ownBlock = some q ∨ w.heap.size ≤ q) (hk : Keeps (fun i => i = c ∨ v.ownBlock = some i) w w') : ERel b t S F wb mb c v0 w0 nn f zs' v' w' := by
  have hs : WSt b t S F wb mb nn f w' := h.st.st.keep hk fun i hi => by
    rcases hi with hi | hi
    · rw [hi]; exact ⟨h.st.dc.2.2, h.st.dc.1, h.st.dc.2.1⟩
    · exact ⟨(h.st.dv i hi).2.2, (h.st.dv i hi).1, (h.st.dv i hi).2.1⟩
  refine ⟨⟨hs, ho, h.st.dc, fun q hq => ?_⟩, fun q hq => (hv q hq).elim (h.own q) (fun h1 => .inr (Nat.le_trans h.keep.size h1)), h.keep.trans hk fun i hi e => ?_⟩
  · rcases hv q hq with h1 | h1
    · exact h.st.dv q h1
    · refine ⟨fun e => ?_, fun e => ?_, fun e => ?_⟩
      · have := h.st.st.hand.lt; omega
      · have := h.st.st.map.lt; omega
      · have := h.st.st.ar.lt q e; omega
  · rcases e with e | e
    · exact .inr (.inr (.inl e))
    · rcases h.own i e with h2 | h2
      · exact .inr (.inr (.inr h2))
      · omega
end
def EachOk (n : Nat) : Prop := ∀ (b t : Nat) (S : ArS) (F : Nat → Prop) (wb mb c nn : Nat) (f : Int → Option Value) (zs : CellL) (v : Value) (T : Tree) (id x y : Int) (w : World),
  ESt b t S F wb mb c nn f zs v w → t < 64 → Den S.L t n T id → zs.length + cnt T ≤ 4096 → -8796093022208 ≤ x → x + 2 ^ n ≤ 8796093022208 → -8796093022208 ≤ y → y + 2 ^ n ≤ 8796093022208 → n ≤ 43 →
  Calls Try.prog 21 #[.pointer (some ⟨wb, 0, none⟩), .int .i64 id, .int .i64 x, .int .i64 y, .int .i64 n, .func (.func 23) #[] #[.pointer (some ⟨c, 0, none⟩)]] w
    fun e w' => e = .returned (.bool true) ∧ ∃ nn' f' v', ERel b t S F wb mb c v w nn' f' (zs ++ cellsT n T x y) v' w'
set_option maxHeartbeats 4000000 in
set_option maxRecDepth 100000 in
theorem each_zero : EachOk 0 := by
  intro b t S F wb mb c nn f zs v T id x y w h ht hd hlen x1 x2 y1 y2 _
  have c2 := h.st.hand.c2
  have HE := Lib.hid (wempty_any 0 b t S F wb mb nn f T id w h.st ht hd)
  have HR := Lib.hid (ERel.refl h)
  match T, hd with
  | .leaf false, hd =>
    rw [show emB (.leaf false) = true from rfl] at HE
    clear h hd hlen
    go_enter Try.func21, Try.ntmps21
    go_wp2_with fail
    with_reducible refine HE.out.mono ?_
    rintro e w1 ⟨rfl, nn1, f1, hst1, hk1⟩
    have HW := Lib.hid (HR.out.walked hst1 hk1)
    clear hst1 hk1
    go_wp2_with fail
    go_ret
    exact ⟨rfl, nn1, f1, v, by rw [show cellsT 0 (.leaf false) x y = [] from rfl, List.append_nil]; exact HW.out⟩
  | .leaf true, hd =>
    have hl : zs.length < 4096 := by
      have : cnt (.leaf true) = 1 := rfl
      omega
    have HL := Lib.hid hl
    rw [show emB (.leaf true) = false from rfl] at HE
    clear h hd hlen hl
    go_enter Try.func21, Try.ntmps21
    go_wp2_with fail
    with_reducible refine HE.out.mono ?_
    rintro e w1 ⟨rfl, nn1, f1, hst1, hk1⟩
    have HW := Lib.hid (HR.out.walked hst1 hk1)
    have HO := Lib.hid (out_any c zs v x y w1 HW.out.st.out HL.out)
    clear hst1 hk1
    go_wp2_with fail
    with_reducible refine HO.out.mono ?_
    rintro e w2 ⟨rfl, v2, ho2, hv2, hk2⟩
    have HP := Lib.hid (HW.out.put ho2 hv2 hk2)
    clear ho2 hv2 hk2
    go_wp2_with fail
    go_ret
    exact ⟨rfl, nn1, f1, v2, HP.out⟩
set_option maxHeartbeats 8000000 in
set_option maxRecDepth 100000 in
theorem each_succ (n : Nat) (IH : EachOk n) : EachOk (n + 1) := by
  intro b t S F wb mb c nn f zs v T id x y w h ht hd hlen x1 x2 y1 y2 hn43
  have c2 := h.st.hand.c2
  have HE := Lib.hid (wempty_any (n + 1) b t S F wb mb nn f T id w h.st ht hd)
  have HR := Lib.hid (ERel.refl h)
  obtain ⟨lv, hlv⟩ : ∃ lv : Nat, lv = n + 1 := ⟨_, rfl⟩
  have hlI : ((n + 1 : Nat) : Int) = (lv : Int) := by omega
  have hlI2 : (lv : Int) - 1 = (n : Int) := by omega
  have hlz : ((lv : Int) == 0) = false := by simp; omega
  have hlz2 : (lv == 0) = false := by simp; omega
  rw [hlI]
  cases hem : emB T with
  | true =>
    rw [hem] at HE
    have hnil : cellsT (n + 1) T x y = [] := by
      have h1 := cellsT_len x y hd.full
      have h2 : cnt T = 0 := by simpa [emB] using hem
      exact List.eq_nil_of_length_eq_zero (by omega)
    have HN := Lib.hid hnil
    clear h hd hlen hem hnil hlI hlv
    go_enter Try.func21, Try.ntmps21
    go_wp2_with fail
    with_reducible refine HE.out.mono ?_
    rintro e w1 ⟨rfl, nn1, f1, hst1, hk1⟩
    have HW := Lib.hid (HR.out.walked hst1 hk1)
    clear hst1 hk1
    go_wp2_with fail
    go_ret
    exact ⟨rfl, nn1, f1, v, by rw [HN.out, List.append_nil]; exact HW.out⟩
  | false =>
    rw [hem] at HE
    obtain ⟨Ta, Tb, Tc, Td, rfl⟩ : ∃ a b c d, T = .node a b c d := by
      match T, hd with
      | .node a b c d, _ => exact ⟨a, b, c, d, rfl⟩
    have hd0 := hd
    obtain ⟨h2, xx, h3, h4, h5, h6, xa, xb, xc, xd⟩ := hd0
    obtain ⟨i, rfl⟩ : ∃ i : Nat, id = i := ⟨id.toNat, by omega⟩
    have hi2 : 2 ≤ i := by omega
    rw [Int.toNat_natCast] at h3
    have hkd : kidsA S t (i : Int) = ((xx.a, xx.b, xx.c, xx.d), 0) := kidsA_yes ht hd.owns hi2 h3
    obtain ⟨q0, hq0⟩ : ∃ q, q = xx.a := ⟨_, rfl⟩
    obtain ⟨q1, hq1⟩ : ∃ q, q = xx.b := ⟨_, rfl⟩
    obtain ⟨q2, hq2⟩ : ∃ q, q = xx.c := ⟨_, rfl⟩
    obtain ⟨q3, hq3⟩ : ∃ q, q = xx.d := ⟨_, rfl⟩
    rw [← hq0] at xa hkd
    rw [← hq1] at xb hkd
    rw [← hq2] at xc hkd
    rw [← hq3] at xd hkd
    have HKF := Lib.hid (fun (W : World) (nn' : Nat) (f' : Int → Option Value) (hs : WSt b t S F wb mb nn' f' W) => (by
      have hk := hkids_any wb b t 0 54 (some (.map (some mb))) S F (i : Int) W hs.ar hs.hand hs.d1.1
      rw [if_pos rfl, if_pos rfl, hkd] at hk
      exact hk : Calls Try.prog 28 #[.pointer (some ⟨wb, 0, none⟩), .int .i64 (i : Int)] W (HRead W wb b t 54 (some (.map (some mb))) (.agg #[.int .i64 q0, .int .i64 q1, .int .i64 q2, .int .i64 q3]) 0)))
    obtain ⟨m, hm⟩ : ∃ m : Nat, m = 2 ^ n := ⟨_, rfl⟩
    have hm2 : (2 : Int) ^ n = (m : Int) := by rw [hm, Int.natCast_pow]; rfl
    have hm3 : (2 : Int) ^ (n + 1) = 2 * (m : Int) := by rw [Int.pow_succ, hm2]; omega
    rw [hm3] at x2 y2
    have hmb : m ≤ 8796093022208 := by
      have : 2 ^ n ≤ 2 ^ 43 := Nat.pow_le_pow_right (by omega) (by omega)
      omega
    have hwr : IntKind.i64.wrap (2 ^ n) = (m : Int) := by
      rw [hm2, IntKind.wrap_i64]; omega
    have hcs : cnt (.node Ta Tb Tc Td) = cnt Ta + cnt Tb + cnt Tc + cnt Td := rfl
    have ga := cellsT_len x y xa.full
    have gb := cellsT_len (x + m) y xb.full
    have gc := cellsT_len x (y + m) xc.full
    have hct : cellsT (n + 1) (.node Ta Tb Tc Td) x y = cellsT n Ta x y ++ (cellsT n Tb (x + m) y ++ (cellsT n Tc x (y + m) ++ cellsT n Td (x + m) (y + m))) := by rw [← hm2]; rfl
    have HLEN := Lib.hid (show zs.length + (cnt Ta + cnt Tb + cnt Tc + cnt Td) ≤ 4096 by rw [← hcs]; exact hlen)
    have HGA := Lib.hid ga
    have HGB := Lib.hid gb
    have HGC := Lib.hid gc
    have HCT := Lib.hid hct
    have HM2 := Lib.hid hm2
    have HDA := Lib.hid xa
    have HDB := Lib.hid xb
    have HDC := Lib.hid xc
    have HDD := Lib.hid xd
    have HIH := Lib.hid IH
    have i0 : ∀ W, (Instr.index 72 (.agg #[.int .i64 q0, .int .i64 q1, .int .i64 q2, .int .i64 q3]) (.int .i64 0)).run Try.prog W = .ok (.int .i64 q0) W := fun W => by kernel_rfl
    have i1 : ∀ W, (Instr.index 72 (.agg #[.int .i64 q0, .int .i64 q1, .int .i64 q2, .int .i64 q3]) (.int .i64 1)).run Try.prog W = .ok (.int .i64 q1) W := fun W => by kernel_rfl
    have i2 : ∀ W, (Instr.index 72 (.agg #[.int .i64 q0, .int .i64 q1, .int .i64 q2, .int .i64 q3]) (.int .i64 2)).run Try.prog W = .ok (.int .i64 q2) W := fun W => by kernel_rfl
    have i3 : ∀ W, (Instr.index 72 (.agg #[.int .i64 q0, .int .i64 q1, .int .i64 q2, .int .i64 q3]) (.int .i64 3)).run Try.prog W = .ok (.int .i64 q3) W := fun W => by kernel_rfl
    clear h hd hlen hem h2 h3 h4 h5 h6 xa xb xc xd hkd hq0 hq1 hq2 hq3 hcs ga gb gc hct IH hi2 hm hm2 hm3 hlI hlv
    go_enter Try.func21, Try.ntmps21
    go_wp2_with fail
    with_reducible refine HE.out.mono ?_
    rintro e w1 ⟨rfl, nn1, f1, hst1, hk1⟩
    have HW := Lib.hid (HR.out.walked hst1 hk1)
    have HK := Lib.hid (HKF.out w1 nn1 f1 hst1)
    clear hst1 hk1 c2
    go_wp2_with fail
    with_reducible refine HK.out.mono ?_
    rintro e w2 ⟨rfl, hh2, hk2⟩
    have HZ0 := Lib.hid (HW.out.walked (HW.out.st.st.hands hh2 hk2) (hk2.mono fun i _ e => .inl e))
    clear hh2 hk2
    obtain ⟨Y0, hY0⟩ : ∃ Y, Y = w2 := ⟨_, rfl⟩
    rw [← hY0] at HZ0
    rw [← hY0]
    clear hY0
    go_wp2_with fail
    refine wp_loop_rounds 5 ?_
    rw [rounds_succ]
    have hc0 := HIH.out b t S F wb mb c nn1 f1 (zs) v Ta q0 x y Y0 HZ0.out.st ht HDA.out (by have := HLEN.out; omega) (by omega) (by rw [HM2.out]; omega) (by omega) (by rw [HM2.out]; omega) (by omega)
    have HC := Lib.hid hc0
    clear hc0
    go_wp2_with fail
    with_reducible refine HC.out.mono ?_
    rintro e Y1 ⟨rfl, m1, g1, v1, hr1⟩
    have HZ1 := Lib.hid (HZ0.out.trans hr1)
    clear hr1 HC
    go_wp2_with fail
    rw [rounds_succ]
    have hc1 := HIH.out b t S F wb mb c m1 g1 (zs ++ cellsT n Ta x y) v1 Tb q1 (x + (m : Int)) y Y1 HZ1.out.st ht HDB.out (by rw [List.length_append, HGA.out]; have := HLEN.out; omega) (by omega) (by rw [HM2.out]; omega) (by omega) (by rw [HM2.out]; omega) (by omega)
    have HC := Lib.hid hc1
    clear hc1
    go_wp2_with fail
    with_reducible refine HC.out.mono ?_
    rintro e Y2 ⟨rfl, m2, g2, v2, hr2⟩
    have HZ2 := Lib.hid (HZ1.out.trans hr2)
    clear hr2 HC
    go_wp2_with fail
    rw [rounds_succ]
    have hc2 := HIH.out b t S F wb mb c m2 g2 (zs ++ cellsT n Ta x y ++ cellsT n Tb (x + (m : Int)) y) v2 Tc q2 x (y + (m : Int)) Y2 HZ2.out.st ht HDC.out (by rw [List.length_append, List.length_append, HGA.out, HGB.out]; have := HLEN.out; omega) (by omega) (by rw [HM2.out]; omega) (by omega) (by rw [HM2.out]; omega) (by omega)
    have HC := Lib.hid hc2
    clear hc2
    go_wp2_with fail
    with_reducible refine HC.out.mono ?_
    rintro e Y3 ⟨rfl, m3, g3, v3, hr3⟩
    have HZ3 := Lib.hid (HZ2.out.trans hr3)
    clear hr3 HC
    go_wp2_with fail
    rw [rounds_succ]
    have hc3 := HIH.out b t S F wb mb c m3 g3 (zs ++ cellsT n Ta x y ++ cellsT n Tb (x + (m : Int)) y ++ cellsT n Tc x (y + (m : Int))) v3 Td q3 (x + (m : Int)) (y + (m : Int)) Y3 HZ3.out.st ht HDD.out (by rw [List.length_append, List.length_append, List.length_append, HGA.out, HGB.out, HGC.out]; have := HLEN.out; omega) (by omega) (by rw [HM2.out]; omega) (by omega) (by rw [HM2.out]; omega) (by omega)
    have HC := Lib.hid hc3
    clear hc3
    go_wp2_with fail
    with_reducible refine HC.out.mono ?_
    rintro e Y4 ⟨rfl, m4, g4, v4, hr4⟩
    have HZ4 := Lib.hid (HZ3.out.trans hr4)
    clear hr4 HC
    go_wp2_with fail
    rw [rounds_succ]
    go_wp2_with fail
    go_ret
    refine ⟨rfl, m4, g4, v4, ?_⟩
    have hz := HZ4.out
    rw [List.append_assoc, List.append_assoc, List.append_assoc] at hz
    rw [HCT.out]
    exact hz
theorem each_any : ∀ n, EachOk n
  | 0 => each_zero
  | n + 1 => each_succ n (each_any n)
end Go.Proofs.Ytabhpbkkjijfjaa
