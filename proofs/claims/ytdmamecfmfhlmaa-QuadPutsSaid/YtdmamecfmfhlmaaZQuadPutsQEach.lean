/-
  quad's walker: each.
-/
import Derived.Test.YtdmamecfmfhlmaaZQuadPutsQWEmpty
namespace Go.Proofs.Ytdmamecfmfhlmaa
set_option maxRecDepth 100000
open Go.RowKit

/-- Everything that each has in hand. -/
structure ESt (b t : Nat) (S : ArS) (F : Nat → Prop) (wb mb c nn : Nat) (f : Int → Option Value) (zs : CellL) (v : Value) (w : World) : Prop where
  st : WSt b t S F wb mb nn f w
  out : OSt c zs v w
  dc : c ≠ wb ∧ c ≠ mb ∧ ¬ F c
  dv : ∀ q, v.ownBlock = some q → q ≠ wb ∧ q ≠ mb ∧ ¬ F q
/-- What it may change. -/
def EFoot (wb mb c : Nat) (v : Value) (i : Nat) : Prop := i = wb ∨ i = mb ∨ i = c ∨ v.ownBlock = some i
/-- Behind some of its work. -/
structure ERel (b t : Nat) (S : ArS) (F : Nat → Prop) (wb mb c : Nat) (v0 : Value) (w0 : World) (nn : Nat) (f : Int → Option Value) (zs : CellL) (v : Value) (w : World) : Prop where
  st : ESt b t S F wb mb c nn f zs v w
  own : ∀ q, v.ownBlock = some q → v0.ownBlock = some q ∨ w0.heap.size ≤ q
  keep : Keeps (EFoot wb mb c v0) w0 w
section
variable {b t : Nat} {S : ArS} {F : Nat → Prop} {wb mb c nn nn' : Nat} {f f' : Int → Option Value} {zs zs' : CellL} {v0 v v' : Value} {w0 w w' : World}
theorem ERel.refl (h : ESt b t S F wb mb c nn f zs v w) : ERel b t S F wb mb c v w nn f zs v w := ⟨h, fun _ hq => .inl hq, Keeps.refl _ _⟩
theorem ERel.trans (h : ERel b t S F wb mb c v0 w0 nn f zs v w) (g : ERel b t S F wb mb c v w nn' f' zs' v' w') : ERel b t S F wb mb c v0 w0 nn' f' zs' v' w' :=
  ⟨g.st, fun q hq => (g.own q hq).elim (h.own q) (fun h1 => .inr (Nat.le_trans h.keep.size h1)), h.keep.trans g.keep fun i hi hh => by
    rcases hh with h1 | h1 | h1 | h1
    · exact .inl h1
    · exact .inr (.inl h1)
    · exact .inr (.inr (.inl h1))
    · rcases h.own i h1 with h2 | h2
      · exact .inr (.inr (.inr h2))
      · omega⟩
/-- The walker's own work. -/
theorem ERel.walked (h : ERel b t S F wb mb c v0 w0 nn f zs v w) (hs : WSt b t S F wb mb nn' f' w') (hk : Keeps (fun i => i = wb ∨ i = mb) w w') : ERel b t S F wb mb c v0 w0 nn' f' zs v w' := by
  have ho : OSt c zs v w' := h.st.out.keep hk (fun e => by rcases e with e | e; exact h.st.dc.1 e; exact h.st.dc.2.1 e) (fun q hq e => by rcases e with e | e; exact (h.st.dv q hq).1 e; exact (h.st.dv q hq).2.1 e)
  exact ⟨⟨hs, ho, h.st.dc, h.st.dv⟩, h.own, h.keep.trans hk fun i _ e => by rcases e with e | e; exact .inl e; exact .inr (.inl e)⟩
/-- A cell put. -/
theorem ERel.put (h : ERel b t S F wb mb c v0 w0 nn f zs v w) (ho : OSt c zs' v' w') (hv : ∀ q, v'.ownBlock = some q → v.ownBlock = some q ∨ w.heap.size ≤ q) (hk : Keeps (fun i => i = c ∨ v.ownBlock = some i) w w') : ERel b t S F wb mb c v0 w0 nn f zs' v' w' := by
  have hs : WSt b t S F wb mb nn f w' := h.st.st.keep hk fun i hi => by
    rcases hi with hi | hi
    · rw [hi]; exact ⟨h.st.dc.2.2, h.st.dc.1, h.st.dc.2.1⟩
    · exact ⟨(h.st.dv i hi).2.2, (h.st.dv i hi).1, (h.st.dv i hi).2.1⟩
  refine ⟨⟨hs, ho, h.st.dc, fun q hq => ?_⟩, fun q hq => (hv q hq).elim (h.own q) (fun h1 => .inr (Nat.le_trans h.keep.size h1)), h.keep.trans hk fun i hi e => ?_⟩
  · rcases hv q hq with h1 | h1
    · exact h.st.dv q h1
    · refine ⟨fun e => ?_, fun e => ?_, fun e => ?_⟩
      · have := h.st.st.hand.lt; omega
      · have := h.st.st.map.lt; omega
      · have := h.st.st.ar.lt q e; omega
  · rcases e with e | e
    · exact .inr (.inr (.inl e))
    · rcases h.own i e with h2 | h2
      · exact .inr (.inr (.inr h2))
      · omega
end
def EachOk (n : Nat) : Prop := ∀ (b t : Nat) (S : ArS) (F : Nat → Prop) (wb mb c nn : Nat) (f : Int → Option Value) (zs : CellL) (v : Value) (T : Tree) (id x y : Int) (w : World),
  ESt b t S F wb mb c nn f zs v w → t < 64 → Den S.L t n T id → zs.length + cnt T ≤ 4096 → -8796093022208 ≤ x → x + 2 ^ n ≤ 8796093022208 → -8796093022208 ≤ y → y + 2 ^ n ≤ 8796093022208 → n ≤ 43 →
  Calls Try.prog 44 #[.pointer (some ⟨wb, 0, none⟩), .int .i64 id, .int .i64 x, .int .i64 y, .int .i64 n, .func (.func 46) #[] #[.pointer (some ⟨c, 0, none⟩)]] w
    fun e w' => e = .returned (.bool true) ∧ ∃ nn' f' v', ERel b t S F wb mb c v w nn' f' (zs ++ cellsT n T x y) v' w'
set_option maxHeartbeats 4000000 in
set_option maxRecDepth 100000 in
theorem each_zero : EachOk 0 := by
  intro b t S F wb mb c nn f zs v T id x y w h ht hd hlen x1 x2 y1 y2 _
  have c2 := h.st.hand.c2
  have HE := Lib.hid (wempty_any 0 b t S F wb mb nn f T id w h.st ht hd)
  have HR := Lib.hid (ERel.refl h)
  match T, hd with
  | .leaf false, hd =>
    rw [show emB (.leaf false) = true from rfl] at HE
    clear h hd hlen
    go_enter Try.func44, Try.ntmps44
    go_wp2_with fail
    with_reducible refine HE.out.mono ?_
    rintro e w1 ⟨rfl, nn1, f1, hst1, hk1⟩
    have HW := Lib.hid (HR.out.walked hst1 hk1)
    clear hst1 hk1
    go_wp2_with fail
    go_ret
    exact ⟨rfl, nn1, f1, v, by rw [show cellsT 0 (.leaf false) x y = [] from rfl, List.append_nil]; exact HW.out⟩
  | .leaf true, hd =>
    have hl : zs.length < 4096 := by
      have : cnt (.leaf true) = 1 := rfl
      omega
    have HL := Lib.hid hl
    rw [show emB (.leaf true) = false from rfl] at HE
    clear h hd hlen hl
    go_enter Try.func44, Try.ntmps44
    go_wp2_with fail
    with_reducible refine HE.out.mono ?_
    rintro e w1 ⟨rfl, nn1, f1, hst1, hk1⟩
    have HW := Lib.hid (HR.out.walked hst1 hk1)
    have HO := Lib.hid (out_any c zs v x y w1 HW.out.st.out HL.out)
    clear hst1 hk1
    go_wp2_with fail
    with_reducible refine HO.out.mono ?_
    rintro e w2 ⟨rfl, v2, ho2, hv2, hk2⟩
    have HP := Lib.hid (HW.out.put ho2 hv2 hk2)
    clear ho2 hv2 hk2
    go_wp2_with fail
    go_ret
    exact ⟨rfl, nn1, f1, v2, HP.out⟩
set_option maxHeartbeats 8000000 in
set_option maxRecDepth 100000 in
theorem each_succ (n : Nat) (IH : EachOk n) : EachOk (n + 1) := by
  intro b t S F wb mb c nn f zs v T id x y w h ht hd hlen x1 x2 y1 y2 hn43
  have c2 := h.st.hand.c2
  have HE := Lib.hid (wempty_any (n + 1) b t S F wb mb nn f T id w h.st ht hd)
  have HR := Lib.hid (ERel.refl h)
  obtain ⟨lv, hlv⟩ : ∃ lv : Nat, lv = n + 1 := ⟨_, rfl⟩
  have hlI : ((n + 1 : Nat) : Int) = (lv : Int) := by omega
  have hlI2 : (lv : Int) - 1 = (n : Int) := by omega
  have hlz : ((lv : Int) == 0) = false := by simp; omega
  have hlz2 : (lv == 0) = false := by simp; omega
  rw [hlI]
  cases hem : emB T with
  | true =>
    rw [hem] at HE
    have hnil : cellsT (n + 1) T x y = [] := by
      have h1 := cellsT_len x y hd.full
      have h2 : cnt T = 0 := by simpa [emB] using hem
      exact List.eq_nil_of_length_eq_zero (by omega)
    have HN := Lib.hid hnil
    clear h hd hlen hem hnil hlI hlv
    go_enter Try.func44, Try.ntmps44
    go_wp2_with fail
    with_reducible refine HE.out.mono ?_
    rintro e w1 ⟨rfl, nn1, f1, hst1, hk1⟩
    have HW := Lib.hid (HR.out.walked hst1 hk1)
    clear hst1 hk1
    go_wp2_with fail
    go_ret
    exact ⟨rfl, nn1, f1, v, by rw [HN.out, List.append_nil]; exact HW.out⟩
  | false =>
    rw [hem] at HE
    obtain ⟨Ta, Tb, Tc, Td, rfl⟩ : ∃ a b c d, T = .node a b c d := by
      match T, hd with
      | .node a b c d, _ => exact ⟨a, b, c, d, rfl⟩
    have hd0 := hd
    obtain ⟨h2, xx, h3, h4, h5, h6, xa, xb, xc, xd⟩ := hd0
    obtain ⟨i, rfl⟩ : ∃ i : Nat, id = i := ⟨id.toNat, by omega⟩
    have hi2 : 2 ≤ i := by omega
    rw [Int.toNat_natCast] at h3
    have hkd : kidsA S t (i : Int) = ((xx.a, xx.b, xx.c, xx.d), 0) := kidsA_yes ht hd.owns hi2 h3
    obtain ⟨q0, hq0⟩ : ∃ q, q = xx.a := ⟨_, rfl⟩
    obtain ⟨q1, hq1⟩ : ∃ q, q = xx.b := ⟨_, rfl⟩
    obtain ⟨q2, hq2⟩ : ∃ q, q = xx.c := ⟨_, rfl⟩
    obtain ⟨q3, hq3⟩ : ∃ q, q = xx.d := ⟨_, rfl⟩
    rw [← hq0] at xa hkd
    rw [← hq1] at xb hkd
    rw [← hq2] at xc hkd
    rw [← hq3] at xd hkd
    have HKF := Lib.hid (fun (W : World) (nn' : Nat) (f' : Int → Option Value) (hs : WSt b t S F wb mb nn' f' W) => (by
      have hk := hkids_any wb b t 0 96 (some (.map (some mb))) S F (i : Int) W hs.ar hs.hand hs.d1.1
      rw [if_pos rfl, if_pos rfl, hkd] at hk
      exact hk : Calls Try.prog 41 #[.pointer (some ⟨wb, 0, none⟩), .int .i64 (i : Int)] W (HRead W wb b t 96 (some (.map (some mb))) (.agg #[.int .i64 q0, .int .i64 q1, .int .i64 q2, .int .i64 q3]) 0)))
    obtain ⟨m, hm⟩ : ∃ m : Nat, m = 2 ^ n := ⟨_, rfl⟩
    have hm2 : (2 : Int) ^ n = (m : Int) := by rw [hm, Int.natCast_pow]; rfl
    have hm3 : (2 : Int) ^ (n + 1) = 2 * (m : Int) := by rw [Int.pow_succ, hm2]; omega
    rw [hm3] at x2 y2
    have hmb : m ≤ 8796093022208 := by
      have : 2 ^ n ≤ 2 ^ 43 := Nat.pow_le_pow_right (by omega) (by omega)
      omega
    have hwr : IntKind.i64.wrap (2 ^ n) = (m : Int) := by
      rw [hm2, IntKind.wrap_i64]; omega
    have hcs : cnt (.node Ta Tb Tc Td) = cnt Ta + cnt Tb + cnt Tc + cnt Td := rfl
    have ga := cellsT_len x y xa.full
    have gb := cellsT_len (x + m) y xb.full
    have gc := cellsT_len x (y + m) xc.full
    have hct : cellsT (n + 1) (.node Ta Tb Tc Td) x y = cellsT n Ta x y ++ (cellsT n Tb (x + m) y ++ (cellsT n Tc x (y + m) ++ cellsT n Td (x + m) (y + m))) := by rw [← hm2]; rfl
    have HLEN := Lib.hid (show zs.length + (cnt Ta + cnt Tb + cnt Tc + cnt Td) ≤ 4096 by rw [← hcs]; exact hlen)
    have HGA := Lib.hid ga
    have HGB := Lib.hid gb
    have HGC := Lib.hid gc
    have HCT := Lib.hid hct
    have HM2 := Lib.hid hm2
    have HDA := Lib.hid xa
    have HDB := Lib.hid xb
    have HDC := Lib.hid xc
    have HDD := Lib.hid xd
    have HIH := Lib.hid IH
    have i0 : ∀ W, (Instr.index 61 (.agg #[.int .i64 q0, .int .i64 q1, .int .i64 q2, .int .i64 q3]) (.int .i64 0)).run Try.prog W = .ok (.int .i64 q0) W := fun W => by kernel_rfl
    have i1 : ∀ W, (Instr.index 61 (.agg #[.int .i64 q0, .int .i64 q1, .int .i64 q2, .int .i64 q3]) (.int .i64 1)).run Try.prog W = .ok (.int .i64 q1) W := fun W => by kernel_rfl
    have i2 : ∀ W, (Instr.index 61 (.agg #[.int .i64 q0, .int .i64 q1, .int .i64 q2, .int .i64 q3]) (.int .i64 2)).run Try.prog W = .ok (.int .i64 q2) W := fun W => by kernel_rfl
    have i3 : ∀ W, (Instr.index 61 (.agg #[.int .i64 q0, .int .i64 q1, .int .i64 q2, .int .i64 q3]) (.int .i64 3)).run Try.prog W = .ok (.int .i64 q3) W := fun W => by kernel_rfl
    clear h hd hlen hem h2 h3 h4 h5 h6 xa xb xc xd hkd hq0 hq1 hq2 hq3 hcs ga gb gc hct IH hi2 hm hm2 hm3 hlI hlv
    go_enter Try.func44, Try.ntmps44
    go_wp2_with fail
    with_reducible refine HE.out.mono ?_
    rintro e w1 ⟨rfl, nn1, f1, hst1, hk1⟩
    have HW := Lib.hid (HR.out.walked hst1 hk1)
    have HK := Lib.hid (HKF.out w1 nn1 f1 hst1)
    clear hst1 hk1 c2
    go_wp2_with fail
    with_reducible refine HK.out.mono ?_
    rintro e w2 ⟨rfl, hh2, hk2⟩
    have HZ0 := Lib.hid (HW.out.walked (HW.out.st.st.hands hh2 hk2) (hk2.mono fun i _ e => .inl e))
    clear hh2 hk2
    obtain ⟨Y0, hY0⟩ : ∃ Y, Y = w2 := ⟨_, rfl⟩
    rw [← hY0] at HZ0
    rw [← hY0]
    clear hY0
    go_wp2_with fail
    refine wp_loop_rounds 5 ?_
    rw [rounds_succ]
    have hc0 := HIH.out b t S F wb mb c nn1 f1 (zs) v Ta q0 x y Y0 HZ0.out.st ht HDA.out (by have := HLEN.out; omega) (by omega) (by rw [HM2.out]; omega) (by omega) (by rw [HM2.out]; omega) (by omega)
    have HC := Lib.hid hc0
    clear hc0
    go_wp2_with fail
    with_reducible refine HC.out.mono ?_
    rintro e Y1 ⟨rfl, m1, g1, v1, hr1⟩
    have HZ1 := Lib.hid (HZ0.out.trans hr1)
    clear hr1 HC
    go_wp2_with fail
    rw [rounds_succ]
    have hc1 := HIH.out b t S F wb mb c m1 g1 (zs ++ cellsT n Ta x y) v1 Tb q1 (x + (m : Int)) y Y1 HZ1.out.st ht HDB.out (by rw [List.length_append, HGA.out]; have := HLEN.out; omega) (by omega) (by rw [HM2.out]; omega) (by omega) (by rw [HM2.out]; omega) (by omega)
    have HC := Lib.hid hc1
    clear hc1
    go_wp2_with fail
    with_reducible refine HC.out.mono ?_
    rintro e Y2 ⟨rfl, m2, g2, v2, hr2⟩
    have HZ2 := Lib.hid (HZ1.out.trans hr2)
    clear hr2 HC
    go_wp2_with fail
    rw [rounds_succ]
    have hc2 := HIH.out b t S F wb mb c m2 g2 (zs ++ cellsT n Ta x y ++ cellsT n Tb (x + (m : Int)) y) v2 Tc q2 x (y + (m : Int)) Y2 HZ2.out.st ht HDC.out (by rw [List.length_append, List.length_append, HGA.out, HGB.out]; have := HLEN.out; omega) (by omega) (by rw [HM2.out]; omega) (by omega) (by rw [HM2.out]; omega) (by omega)
    have HC := Lib.hid hc2
    clear hc2
    go_wp2_with fail
    with_reducible refine HC.out.mono ?_
    rintro e Y3 ⟨rfl, m3, g3, v3, hr3⟩
    have HZ3 := Lib.hid (HZ2.out.trans hr3)
    clear hr3 HC
    go_wp2_with fail
    rw [rounds_succ]
    have hc3 := HIH.out b t S F wb mb c m3 g3 (zs ++ cellsT n Ta x y ++ cellsT n Tb (x + (m : Int)) y ++ cellsT n Tc x (y + (m : Int))) v3 Td q3 (x + (m : Int)) (y + (m : Int)) Y3 HZ3.out.st ht HDD.out (by rw [List.length_append, List.length_append, List.length_append, HGA.out, HGB.out, HGC.out]; have := HLEN.out; omega) (by omega) (by rw [HM2.out]; omega) (by omega) (by rw [HM2.out]; omega) (by omega)
    have HC := Lib.hid hc3
    clear hc3
    go_wp2_with fail
    with_reducible refine HC.out.mono ?_
    rintro e Y4 ⟨rfl, m4, g4, v4, hr4⟩
    have HZ4 := Lib.hid (HZ3.out.trans hr4)
    clear hr4 HC
    go_wp2_with fail
    rw [rounds_succ]
    go_wp2_with fail
    go_ret
    refine ⟨rfl, m4, g4, v4, ?_⟩
    have hz := HZ4.out
    rw [List.append_assoc, List.append_assoc, List.append_assoc] at hz
    rw [HCT.out]
    exact hz
theorem each_any : ∀ n, EachOk n
  | 0 => each_zero
  | n + 1 => each_succ n (each_any n)
end Go.Proofs.Ytdmamecfmfhlmaa
