/-
  quad.Peel.
-/
import Derived.Deep.CutRange
import Derived.Test.YtabhpbkkjijfjaaZLeapSteps30
namespace Go.Proofs.Ytabhpbkkjijfjaa
set_option maxRecDepth 100000
open Go.RowKit

def qAt' (q : Four) : Nat → Int
  | 0 => q.1
  | 1 => q.2.1
  | 2 => q.2.2.1
  | _ => q.2.2.2
def kidP : Nat → Tree → Tree
  | 0, .node a _ _ _ => a
  | 1, .node _ b _ _ => b
  | 2, .node _ _ c _ => c
  | _, .node _ _ _ d => d
  | _, .leaf b => .leaf b
/-- A walker, whatever it knows. -/
structure PSt (b t : Nat) (S : ArS) (F : Nat → Prop) (wb mb : Nat) (bad : Int) (w : World) : Prop where
  ar : IsAr b S w F
  hand : HandAt wb b t bad 54 (some (.map (some mb))) w
  map : ∃ nn f, MapOf intV I64 w mb nn f ∧ MemoE S.L t f
  d1 : ¬ F wb ∧ ¬ F mb
  dm : wb ≠ mb
section
variable {b t : Nat} {S : ArS} {F G : Nat → Prop} {wb mb : Nat} {bad : Int} {w w' : World}
theorem PSt.keep (h : PSt b t S F wb mb bad w) (hk : Keeps G w w') (hg : ∀ i, G i → ¬ F i ∧ i ≠ wb ∧ i ≠ mb) : PSt b t S F wb mb bad w' := by
  obtain ⟨nn, f, hm, he⟩ := h.map
  exact { h with
    ar := h.ar.keep hk (fun i hi e => (hg i e).1 hi)
    hand := h.hand.keep (hk.block _ h.hand.lt (fun e => (hg _ e).2.1 rfl))
    map := ⟨nn, f, hm.keep (hk.block _ hm.lt (fun e => (hg _ e).2.2 rfl)), he⟩ }
theorem PSt.below (h : PSt b t S F wb mb bad w) (hb : Below w.heap.size w w') : PSt b t S F wb mb bad w' := h.keep (Keeps.of_below (F := fun _ => False) hb) (fun _ e => e.elim)
theorem PSt.hands (h : PSt b t S F wb mb bad w) {bad' : Int} (hh : HandAt wb b t bad' 54 (some (.map (some mb))) w') (hk : Keeps (fun i => i = wb) w w') : PSt b t S F wb mb bad' w' := by
  obtain ⟨nn, f, hm, he⟩ := h.map
  exact { h with
    ar := h.ar.keep hk (fun i hi e => h.d1.1 (by rw [← e]; exact hi))
    hand := hh
    map := ⟨nn, f, hm.keep (hk.block mb hm.lt (fun e => h.dm e.symm)), he⟩ }
theorem PSt.wst (h : PSt b t S F wb mb 0 w) : ∃ nn f, WSt b t S F wb mb nn f w := by
  obtain ⟨nn, f, hm, he⟩ := h.map
  exact ⟨nn, f, h.ar, h.hand, hm, he, h.d1, h.dm⟩
theorem WSt.pst {nn : Nat} {f : Int → Option Value} (h : WSt b t S F wb mb nn f w) : PSt b t S F wb mb 0 w := ⟨h.ar, h.hand, ⟨nn, f, h.map, h.memo⟩, h.d1, h.dm⟩
end
theorem relK_four {b t : Nat} {S : ArS} {F : Nat → Prop} {wb mb : Nat} {bad : Int} {B : Nat} {W v : World} (hW : B < W.heap.size) (hp : PSt b t S F wb mb bad v) (hk : Keeps (fun i => i = wb) W v) (hn : v.heap[W.heap.size]? = some (.cells #[.int .i64 0, .int .i64 0, .int .i64 0, .int .i64 0] 72 (0, 0))) (hout : (∀ i, F i → i ≤ B) ∧ wb ≤ B ∧ mb ≤ B) (a0 a1 a2 a3 : Int) :
    B < W.heap.size ∧ PSt b t S F wb mb bad ((((v.setCell ⟨W.heap.size, 0, none⟩ (.int .i64 a0)).setCell ⟨W.heap.size, 1, none⟩ (.int .i64 a1)).setCell ⟨W.heap.size, 2, none⟩ (.int .i64 a2)).setCell ⟨W.heap.size, 3, none⟩ (.int .i64 a3)) ∧ Keeps (fun i => i = wb) W ((((v.setCell ⟨W.heap.size, 0, none⟩ (.int .i64 a0)).setCell ⟨W.heap.size, 1, none⟩ (.int .i64 a1)).setCell ⟨W.heap.size, 2, none⟩ (.int .i64 a2)).setCell ⟨W.heap.size, 3, none⟩ (.int .i64 a3)) ∧ ((((v.setCell ⟨W.heap.size, 0, none⟩ (.int .i64 a0)).setCell ⟨W.heap.size, 1, none⟩ (.int .i64 a1)).setCell ⟨W.heap.size, 2, none⟩ (.int .i64 a2)).setCell ⟨W.heap.size, 3, none⟩ (.int .i64 a3)).heap[W.heap.size]? = some (.cells #[.int .i64 a0, .int .i64 a1, .int .i64 a2, .int .i64 a3] 72 (0, 0)) := by
  refine ⟨hW, ?_, ?_, set4 hn⟩
  · have hg : ∀ i, i = W.heap.size → ¬ F i ∧ i ≠ wb ∧ i ≠ mb := fun i e => ⟨fun hF => by have := hout.1 i hF; omega, by omega, by omega⟩
    have one : ∀ (v : World) (j : Nat) (u : Value), PSt b t S F wb mb bad v → PSt b t S F wb mb bad (v.setCell ⟨W.heap.size, j, none⟩ u) := fun v j u h => h.keep (Keeps.setCell (p := ⟨W.heap.size, j, none⟩) (Keeps.refl (fun i => i = W.heap.size) v) (fun _ => rfl) _) hg
    exact one _ _ _ (one _ _ _ (one _ _ _ (one _ _ _ hp)))
  · exact Keeps.setCell (Keeps.setCell (Keeps.setCell (Keeps.setCell hk (fun hp => absurd hp (Nat.lt_irrefl _)) _) (fun hp => absurd hp (Nat.lt_irrefl _)) _) (fun hp => absurd hp (Nat.lt_irrefl _)) _) (fun hp => absurd hp (Nat.lt_irrefl _)) _
/-- What a round of Peel works on: the quarters, their quarters, and which of these are empty. -/
structure RoundOk (b t : Nat) (S : ArS) (F : Nat → Prop) (wb mb : Nat) (bad id : Int) (n : Nat) (T : Tree) (q : Four) (r : Nat → Four) (eb : Nat → Nat → Bool) : Prop where
  kids : ∀ W, PSt b t S F wb mb bad W → Calls Try.prog 28 #[.pointer (some ⟨wb, 0, none⟩), .int .i64 id] W fun e w' => e = .returned (fourV q) ∧ PSt b t S F wb mb bad w' ∧ Keeps (fun i => i = wb) W w'
  kids2 : ∀ k, k < 4 → ∀ W, PSt b t S F wb mb bad W → Calls Try.prog 28 #[.pointer (some ⟨wb, 0, none⟩), .int .i64 (qAt' q k)] W fun e w' => e = .returned (fourV (r k)) ∧ PSt b t S F wb mb bad w' ∧ Keeps (fun i => i = wb) W w'
  empty : ∀ k j, k < 4 → j < 4 → ∀ W, PSt b t S F wb mb bad W → Calls Try.prog 29 #[.pointer (some ⟨wb, 0, none⟩), .int .i64 (qAt' (r k) j)] W fun e w' => e = .returned (.bool (eb k j)) ∧ PSt b t S F wb mb bad w' ∧ Keeps (fun i => i = wb ∨ i = mb) W w'
  i64 : ∀ k j, k < 4 → j < 4 → I64 (qAt' (r k) j)
  den : bad = 0 → ∀ k j, k < 4 → j < 4 → Den S.L t n (kidP j (kidP k T)) (qAt' (r k) j) ∧ eb k j = emB (kidP j (kidP k T))
theorem kids_good {b t : Nat} {S : ArS} {F : Nat → Prop} {wb mb : Nat} {n : Nat} {T : Tree} {id : Int} (_ok : ArOk S) (ht : t < 64) (hd : Den S.L t (n + 1) T id) (hF : ¬ F wb) :
    ∃ q : Four, (∀ k, k < 4 → Den S.L t n (kidP k T) (qAt' q k)) ∧ ∀ W, PSt b t S F wb mb 0 W → Calls Try.prog 28 #[.pointer (some ⟨wb, 0, none⟩), .int .i64 id] W fun e w' => e = .returned (fourV q) ∧ PSt b t S F wb mb 0 w' ∧ Keeps (fun i => i = wb) W w' := by
  obtain ⟨Ta, Tb, Tc, Td, rfl⟩ : ∃ a b c d, T = .node a b c d := by
    match T, hd with
    | .node a b c d, _ => exact ⟨a, b, c, d, rfl⟩
  have hd0 := hd
  obtain ⟨h2, x, h3, h4, h5, h6, xa, xb, xc, xd⟩ := hd0
  have hkd : kidsA S t id = ((x.a, x.b, x.c, x.d), 0) := by
    obtain ⟨i, rfl⟩ : ∃ i : Nat, id = i := ⟨id.toNat, by omega⟩
    rw [Int.toNat_natCast] at h3
    exact kidsA_yes ht hd.owns (by omega) h3
  refine ⟨(x.a, x.b, x.c, x.d), fun k hk => ?_, fun W hW => ?_⟩
  · rcases (show k = 0 ∨ k = 1 ∨ k = 2 ∨ k = 3 by omega) with rfl | rfl | rfl | rfl
    · exact xa
    · exact xb
    · exact xc
    · exact xd
  · have hk := hkids_any wb b t 0 54 (some (.map (some mb))) S F id W hW.ar hW.hand hF
    rw [if_pos rfl, if_pos rfl, hkd] at hk
    exact hk.mono fun e w' ⟨h1, h2, h3⟩ => ⟨h1, hW.hands h2 h3, h3⟩
theorem kids_bad {b t : Nat} {S : ArS} {F : Nat → Prop} {wb mb : Nat} {bad id : Int} (hb : bad ≠ 0) (hF : ¬ F wb) : ∀ W, PSt b t S F wb mb bad W → Calls Try.prog 28 #[.pointer (some ⟨wb, 0, none⟩), .int .i64 id] W fun e w' => e = .returned (fourV (0, 0, 0, 0)) ∧ PSt b t S F wb mb bad w' ∧ Keeps (fun i => i = wb) W w' := fun W hW => by
  have hk := hkids_any wb b t bad 54 (some (.map (some mb))) S F id W hW.ar hW.hand hF
  rw [if_neg hb, if_neg hb] at hk
  exact hk.mono fun e w' ⟨h1, h2, h3⟩ => ⟨h1, hW.hands h2 h3, h3⟩
theorem empty_good {b t : Nat} {S : ArS} {F : Nat → Prop} {wb mb : Nat} {n : Nat} {T : Tree} {id : Int} (ht : t < 64) (hd : Den S.L t n T id) : ∀ W, PSt b t S F wb mb 0 W → Calls Try.prog 29 #[.pointer (some ⟨wb, 0, none⟩), .int .i64 id] W fun e w' => e = .returned (.bool (emB T)) ∧ PSt b t S F wb mb 0 w' ∧ Keeps (fun i => i = wb ∨ i = mb) W w' := fun W hW => by
  obtain ⟨nn, f, hs⟩ := hW.wst
  refine (wempty_any n b t S F wb mb nn f T id W hs ht hd).mono ?_
  rintro e w' ⟨h1, nn', f', h2, h3⟩
  exact ⟨h1, h2.pst, h3⟩
theorem empty_dead (wb : Nat) (W : World) : Calls Try.prog 29 #[.pointer (some ⟨wb, 0, none⟩), .int .i64 0] W fun e w' => e = .returned (.bool true) ∧ w' = W := by
  go_enter Try.func29, Try.ntmps29
  go_wp2_with fail
  go_ret
  exact ⟨rfl, rfl⟩
theorem round_good {b t : Nat} {S : ArS} {F : Nat → Prop} {wb mb : Nat} {n : Nat} {T : Tree} {id : Int} (ok : ArOk S) (ht : t < 64) (hd : Den S.L t (n + 2) T id) (hF : ¬ F wb) : ∃ q r eb, RoundOk b t S F wb mb 0 id n T q r eb := by
  obtain ⟨q, hq, hk⟩ := kids_good (b := b) (mb := mb) ok ht hd hF
  obtain ⟨r0, d0, g0⟩ := kids_good (b := b) (mb := mb) ok ht (hq 0 (by omega)) hF
  obtain ⟨r1, d1, g1⟩ := kids_good (b := b) (mb := mb) ok ht (hq 1 (by omega)) hF
  obtain ⟨r2, d2, g2⟩ := kids_good (b := b) (mb := mb) ok ht (hq 2 (by omega)) hF
  obtain ⟨r3, d3, g3⟩ := kids_good (b := b) (mb := mb) ok ht (hq 3 (by omega)) hF
  have hr : ∀ k j, k < 4 → j < 4 → Den S.L t n (kidP j (kidP k T)) (qAt' ((fun k => match k with | 0 => r0 | 1 => r1 | 2 => r2 | _ => r3 : Nat → Four) k) j) := fun k j hk hj => by
    rcases (show k = 0 ∨ k = 1 ∨ k = 2 ∨ k = 3 by omega) with rfl | rfl | rfl | rfl
    · exact d0 j hj
    · exact d1 j hj
    · exact d2 j hj
    · exact d3 j hj
  refine ⟨q, fun k => match k with | 0 => r0 | 1 => r1 | 2 => r2 | _ => r3, fun k j => emB (kidP j (kidP k T)), hk, fun k hk => ?_, fun k j hk hj => empty_good ht (hr k j hk hj), fun k j hk hj => (hr k j hk hj).i64 ok, fun _ k j hk hj => ⟨hr k j hk hj, rfl⟩⟩
  rcases (show k = 0 ∨ k = 1 ∨ k = 2 ∨ k = 3 by omega) with rfl | rfl | rfl | rfl
  · exact g0
  · exact g1
  · exact g2
  · exact g3
theorem round_bad {b t : Nat} {S : ArS} {F : Nat → Prop} {wb mb : Nat} {n : Nat} {T : Tree} {bad id : Int} (hb : bad ≠ 0) (hF : ¬ F wb) : ∃ q r eb, RoundOk b t S F wb mb bad id n T q r eb := by
  have hz : ∀ k, k < 4 → qAt' (0, 0, 0, 0) k = 0 := fun k hk => by
    rcases (show k = 0 ∨ k = 1 ∨ k = 2 ∨ k = 3 by omega) with rfl | rfl | rfl | rfl <;> rfl
  refine ⟨(0, 0, 0, 0), fun _ => (0, 0, 0, 0), fun _ _ => true, kids_bad hb hF, fun k hk => kids_bad hb hF, fun k j hk hj W hW => ?_, fun k j hk hj => by rw [hz j hj]; unfold I64; omega, fun h => absurd h hb⟩
  rw [hz j hj]
  refine (empty_dead wb W).mono ?_
  rintro e w' ⟨h1, rfl⟩
  exact ⟨h1, hW, Keeps.refl _ _⟩
/-- All but one of a quarter's quarters are empty: so far. -/
def rimB (eb : Nat → Bool) (m : Nat) : Nat → Bool
  | 0 => true
  | j + 1 => rimB eb m j && (decide (j = m) || eb j)
theorem fits_rim {T : Tree} {n : Nat} (h : Full (n + 2) T) : fitsT T = (rimB (fun j => emB (kidP j (kidP 0 T))) 3 4 && rimB (fun j => emB (kidP j (kidP 1 T))) 2 4 && rimB (fun j => emB (kidP j (kidP 2 T))) 1 4 && rimB (fun j => emB (kidP j (kidP 3 T))) 0 4) := by
  match T, h with
  | .node (.node a0 a1 a2 a3) (.node b0 b1 b2 b3) (.node c0 c1 c2 c3) (.node d0 d1 d2 d3), _ =>
    simp [fitsT, rimB, kidP]
  | .node (.leaf _) _ _ _, h => exact h.1.elim
  | .node (.node _ _ _ _) (.leaf _) _ _, h => exact h.2.1.elim
  | .node (.node _ _ _ _) (.node _ _ _ _) (.leaf _) _, h => exact h.2.2.1.elim
  | .node (.node _ _ _ _) (.node _ _ _ _) (.node _ _ _ _) (.leaf _), h => exact h.2.2.2.elim
theorem inner_kids {T : Tree} {n : Nat} (h : Full (n + 2) T) : innerT T = .node (kidP 3 (kidP 0 T)) (kidP 2 (kidP 1 T)) (kidP 1 (kidP 2 T)) (kidP 0 (kidP 3 T)) := by
  match T, h with
  | .node (.node a0 a1 a2 a3) (.node b0 b1 b2 b3) (.node c0 c1 c2 c3) (.node d0 d1 d2 d3), _ => rfl
  | .node (.leaf _) _ _ _, h => exact h.1.elim
  | .node (.node _ _ _ _) (.leaf _) _ _, h => exact h.2.1.elim
  | .node (.node _ _ _ _) (.node _ _ _ _) (.leaf _) _, h => exact h.2.2.1.elim
  | .node (.node _ _ _ _) (.node _ _ _ _) (.node _ _ _ _) (.leaf _), h => exact h.2.2.2.elim
theorem peel_fits {n : Nat} {T : Tree} (h : fitsT T = true) : peelT (n + 3) T = peelT (n + 2) (innerT T) ∧ peelL (n + 3) T = peelL (n + 2) (innerT T) := by
  constructor
  · rw [peelT, if_pos h]
  · rw [peelL, if_pos h]
theorem peel_stops {n : Nat} {T : Tree} (h : fitsT T = false) : peelT (n + 3) T = T ∧ peelL (n + 3) T = n + 3 := by
  constructor
  · rw [peelT, if_neg (by rw [h]; decide)]
  · rw [peelL, if_neg (by rw [h]; decide)]
theorem peel_two (T : Tree) : peelT 2 T = T ∧ peelL 2 T = 2 := ⟨rfl, rfl⟩
/-- Behind some rounds of Peel. -/
structure LPeel (U : Th → Prop) (w : World) (F : Nat → Prop) (b t : Nat) (S : ArS) (lv0 : Nat) (T0 : Tree) (wb mb : Nat) (n : Nat) (id : Int) (S1 : ArS) (b1 : Int) (F1 : Nat → Prop) (W : World) : Prop where
  st : PSt b t S1 F1 wb mb b1 W
  res : Res U t S S1 0 b1 (lv0 - n)
  le : 2 ≤ n ∧ n ≤ lv0
  i64 : I64 id
  den : b1 = 0 → ∃ T1, Den S1.L t n T1 id ∧ peelT n T1 = peelT lv0 T0 ∧ PeelEq n T1 lv0 T0
  far : ∀ i, F1 i → F i ∨ w.heap.size ≤ i
  keep : Keeps F w W
  new : w.heap.size ≤ wb ∧ w.heap.size ≤ mb
theorem LPeel.more {U : Th → Prop} {w W W' : World} {F F1 : Nat → Prop} {b t : Nat} {S S1 : ArS} {lv0 : Nat} {T0 : Tree} {wb mb n : Nat} {id b1 : Int} (h : LPeel U w F b t S lv0 T0 wb mb n id S1 b1 F1 W) {G : Nat → Prop} (hp : PSt b t S1 F1 wb mb b1 W') (hk : Keeps G W W') (hg : ∀ i, G i → w.heap.size ≤ i) : LPeel U w F b t S lv0 T0 wb mb n id S1 b1 F1 W' :=
  { h with
    st := hp
    keep := h.keep.trans hk (fun i hi e => by have := hg i e; omega) }
theorem LPeel.joined {U : Th → Prop} {w W w' : World} {F F1 F2 : Nat → Prop} {b t : Nat} {S S1 S2 : ArS} {lv0 m : Nat} {T0 : Tree} {wb mb : Nat} {id r b2 : Int} (h : LPeel U w F b t S lv0 T0 wb mb (m + 3) id S1 0 F1 W) (g1 : IsAr b S2 w' F2) (g2 : HandAt wb b t b2 54 (some (.map (some mb))) w') (g3 : ∀ i, F2 i → F1 i ∨ W.heap.size ≤ i) (g4 : Keeps (fun i => F1 i ∨ i = wb) W w') (hres : Res U t S1 S2 0 b2 1) (hr : I64 r) (hden : b2 = 0 → ∃ T2, Den S2.L t (m + 2) T2 r ∧ peelT (m + 2) T2 = peelT lv0 T0 ∧ PeelEq (m + 2) T2 lv0 T0) : LPeel U w F b t S lv0 T0 wb mb (m + 2) r S2 b2 F2 w' := by
  obtain ⟨nn, f, hm, he⟩ := h.st.map
  have hw : wb < W.heap.size := h.st.hand.lt
  have hmb := hm.lt
  have hwW := h.keep.size
  refine ⟨⟨g1, g2, ⟨nn, f, hm.keep (g4.block mb hmb (fun e => by rcases e with e | e; exact h.st.d1.2 e; exact h.st.dm e.symm)), ⟨fun i v hv => ?_⟩⟩, ⟨fun e => ?_, fun e => ?_⟩, h.st.dm⟩, (h.res.trans hres).more ?_, ⟨by omega, by have := h.le.2; omega⟩, hr, hden, fun i hi => ?_, h.keep.trans g4 fun i hi e => ?_, h.new⟩
  · obtain ⟨n, T, h1, h2⟩ := he.all i v hv
    exact ⟨n, T, h1.ext (hres.grew.ext t), h2⟩
  · rcases g3 _ e with e1 | e1
    · exact h.st.d1.1 e1
    · omega
  · rcases g3 _ e with e1 | e1
    · exact h.st.d1.2 e1
    · omega
  · have := h.le.2; omega
  · rcases g3 _ hi with e1 | e1
    · exact h.far i e1
    · exact .inr (by omega)
  · rcases e with e | e
    · rcases h.far i e with e1 | e1
      · exact e1
      · omega
    · have := h.new.1; omega
set_option maxHeartbeats 16000000 in
set_option maxRecDepth 100000 in
theorem peel_any {U : Th → Prop} (b t : Nat) (S : ArS) (F : Nat → Prop) (lv0 : Nat) (T0 : Tree) (id0 : Int) (w : World) (h : IsAr b S w F) (wf : Wf S.L) (ht : t < 64) (hd : Den S.L t lv0 T0 id0) (hl2 : 2 ≤ lv0) (h44 : lv0 ≤ 44) (hU : ∀ X, PeelD lv0 T0 X → U (.sq X)) :
    Calls Try.prog 15 #[.pointer (some ⟨b, 0, none⟩), .int .i64 t, .int .i64 id0] w (Gets U w F b t S lv0 (peelL lv0 T0) (peelT lv0 T0)) := by
  have HW := Lib.hid (walk_any b t w)
  have HI := Lib.hid h
  have HFL := Lib.hid h.lt
  have HD := Lib.hid hd
  have HWF := Lib.hid wf
  have HLA := Lib.hid (hd.levelA h.ok ht)
  have HU := Lib.hid hU
  clear h hd wf hU
  go_enter Try.func15, Try.ntmps15
  go_wp2_with fail
  with_reducible refine HW.out.mono ?_
  rintro e w1 ⟨rfl, hb1, hm1, hz1, hh1⟩
  have HLV := Lib.hid (hlevel_any (w.heap.size + 1) b t 0 54 (some (.map (some w.heap.size))) S F id0 w1 (HI.out.below hb1) hh1 (fun e => by have := HFL.out _ e; omega))
  rw [if_pos rfl, if_pos rfl, HLA.out] at HLV
  have HB1 := Lib.hid hb1
  have HM1 := Lib.hid hm1
  have HZ1 := Lib.hid hz1
  clear hb1 hm1 hh1 hz1
  go_wp2_with fail
  with_reducible refine HLV.out.mono ?_
  rintro e w2 ⟨rfl, hh2, hk2⟩
  have c2 := hh2.c2
  have hsz := hk2.size
  have hz1 := HZ1.out
  have hm2 : w2.heap[w.heap.size]? = some (.map #[] 0) := (hk2.block _ (by omega) (by omega)).trans HM1.out
  have hm0 : MapOf intV I64 w2 w.heap.size 0 (fun _ => none) := ⟨#[], 0, hm2, by simp, by simp [MapKept.Stamped], fun e he => by simp at he, fun a v hv => by cases hv⟩
  have hi2 : IsAr b S w2 F := (HI.out.below HB1.out).keep hk2 (fun i hi e => by have := HFL.out i hi; omega)
  have hst : PSt b t S F (w.heap.size + 1) w.heap.size 0 w2 := ⟨hi2, hh2, ⟨0, _, hm0, ⟨fun i v hv => by cases hv⟩⟩, ⟨fun e => by have := HFL.out _ e; omega, fun e => by have := HFL.out _ e; omega⟩, by omega⟩
  have hl0 : LPeel U w F b t S lv0 T0 (w.heap.size + 1) w.heap.size lv0 id0 S 0 F w2 := ⟨hst, by rw [Nat.sub_self]; exact Res.refl HWF.out, ⟨hl2, Nat.le_refl _⟩, HD.out.i64 HI.out.ok, fun _ => ⟨T0, HD.out, rfl, rfl, fun _ h => h⟩, fun i hi => .inl hi, (Keeps.of_below HB1.out).trans hk2 (fun i hi e => by omega), by omega⟩
  have HL0 : Aside (LPeel U w F b t S lv0 T0 (w.heap.size + 1) w.heap.size lv0 id0 S 0 F w2) := hl0
  have t1 : decide ((lv0 : Int) < 2) = false := decide_eq_false (by omega)
  have t2 : decide (lv0 < 2) = false := decide_eq_false (by omega)
  obtain ⟨wb, hwb⟩ : ∃ wb, wb = w.heap.size + 1 := ⟨_, rfl⟩
  obtain ⟨mb, hmb⟩ : ∃ mb, mb = w.heap.size := ⟨_, rfl⟩
  rw [← hwb] at c2 HL0 ⊢
  rw [← hmb] at HL0
  have HWB := Lib.hid (show w.heap.size ≤ wb ∧ w.heap.size ≤ mb by omega)
  clear hh2 hk2 hsz hm2 hm0 hi2 hst hl0 hz1 hwb hmb
  go_upto_region 7 with fail
  clear c2 t1 t2
  go_loopw [2, 9, 10, 11, 12, 13, 14, 15] (fun rv lvv _ _ _ _ _ _ ws => ∃ (n : Nat) (id : Int) (S1 : ArS) (b1 : Int) (F1 : Nat → Prop), rv = .int .i64 id ∧ lvv = .int .i64 n ∧ Aside (LPeel U w F b t S lv0 T0 wb mb n id S1 b1 F1 ws)) (fun _ lvv _ _ _ _ _ _ _ => (intOf lvv).toNat)
  case atStart => exact ⟨lv0, id0, S, 0, F, rfl, rfl, HL0⟩
  case round =>
    obtain ⟨n, id, S1, b1, F1, rfl, rfl, HLP⟩ := hrel
    have hn2 := HLP.out.le
    by_cases hn : n = 2
    · subst hn
      have HDN := Lib.hid (done_any wb b t b1 54 (some (.map (some mb))) id wr HLP.out.st.hand)
      have HLX := Lib.hid (show (b1 = 0 → Den S1.L t (peelL lv0 T0) (peelT lv0 T0) id) from fun e => by
        obtain ⟨T1, g1, g2, g3⟩ := HLP.out.den e
        rw [← g2, ← g3.1]
        exact g1)
      go_wp2_with fail
      with_reducible refine HDN.out.mono ?_
      rintro e w9 ⟨rfl, h9⟩
      have HDL := Lib.hid (show Gets U w F b t S lv0 (peelL lv0 T0) (peelT lv0 T0) (.returned (.tuple #[.int .i64 (if b1 = 0 then id else 0), .int .i64 b1])) w9 from by
        refine ⟨_, b1, S1, F1, rfl, ?_, HLP.out.res.more (Nat.sub_le _ _), fun e => by rw [if_pos e]; exact HLX.out e, fun e => by rw [if_neg e], HLP.out.st.ar.below h9, HLP.out.far, HLP.out.keep.below h9⟩
        split
        · exact HLP.out.i64
        · unfold I64; omega)
      obtain ⟨r2, hr2⟩ : ∃ r2, r2 = if b1 = 0 then id else 0 := ⟨_, rfl⟩
      rw [← hr2] at HDL
      rw [← hr2]
      clear hr2 h9
      go_wp2_with fail
      go_ret2
      exact HDL.out
    · obtain ⟨m0, hm⟩ : ∃ m, n = m + 3 := ⟨n - 3, by omega⟩
      have hround : ∃ T1 q r eb, RoundOk b t S1 F1 wb mb b1 id (m0 + 1) T1 q r eb ∧ (b1 = 0 → Full (m0 + 3) T1 ∧ Den S1.L t n T1 id ∧ peelT n T1 = peelT lv0 T0 ∧ PeelEq n T1 lv0 T0) := by
        by_cases hb : b1 = 0
        · obtain ⟨T1, g1, g2, g3⟩ := HLP.out.den hb
          subst hb
          rw [hm] at g1
          obtain ⟨q, r, eb, hr⟩ := round_good (b := b) (mb := mb) (n := m0 + 1) HLP.out.st.ar.ok ht g1 HLP.out.st.d1.1
          exact ⟨T1, q, r, eb, hr, fun _ => ⟨g1.full, by rw [hm]; exact g1, g2, g3⟩⟩
        · obtain ⟨q, r, eb, hr⟩ := round_bad (b := b) (t := t) (S := S1) (mb := mb) (n := m0 + 1) (T := T0) (id := id) hb HLP.out.st.d1.1
          exact ⟨T0, q, r, eb, hr, fun e => absurd e hb⟩
      obtain ⟨T1, q, r, eb, hr, hT1⟩ := hround
      have HR := Lib.hid hr
      have HT1 := Lib.hid hT1
      have HN := Lib.hid hm
      have t1 : decide ((n : Int) > 2) = true := decide_eq_true (by omega)
      have t2 : decide (2 < n) = true := decide_eq_true (by omega)
      have t3 : decide ((2 : Int) < (n : Int)) = true := decide_eq_true (by omega)
      obtain ⟨⟨q0, q1, q2, q3⟩, hqe⟩ : ∃ x, x = q := ⟨_, rfl⟩
      have hk0 := hr.kids wr HLP.out.st
      rw [← hqe] at hk0
      unfold fourV at hk0
      simp only at hk0
      have HK0 := Lib.hid hk0
      have HQE := Lib.hid hqe
      have HFW := Lib.hid HLP.out.st.ar.lt
      have hwbw : wb < wr.heap.size := HLP.out.st.hand.lt
      clear hr hT1 hk0 hqe hm
      go_upto_region 9 with fail
      clear t1 t2 t3
      go_wp2_with fail
      with_reducible refine HK0.out.mono ?_
      rintro e w3 ⟨rfl, hp3, hk3⟩
      obtain ⟨X3, hX3⟩ : ∃ X, X = w3.alloc (.cells #[.int .i64 q0, .int .i64 q1, .int .i64 q2, .int .i64 q3] 72 (0, 0)) := ⟨_, rfl⟩
      obtain ⟨X4, hX4⟩ : ∃ X, X = X3.alloc (.cells #[.int .i64 0, .int .i64 0, .int .i64 0, .int .i64 0] 72 (0, 0)) := ⟨_, rfl⟩
      have hbX3 : Below w3.heap.size w3 X3 := by rw [hX3]; exact (Below.refl _ _).alloc (Nat.le_refl _) _
      have hbX4 : Below X3.heap.size X3 X4 := by rw [hX4]; exact (Below.refl _ _).alloc (Nat.le_refl _) _
      have hx3 : X3.heap.size = w3.heap.size + 1 := by rw [hX3]; simp
      have hq4 : X4.heap[w3.heap.size]? = some (.cells #[.int .i64 q0, .int .i64 q1, .int .i64 q2, .int .i64 q3] 72 (0, 0)) := by rw [hX4, Below.heap_alloc _ _ _ (by omega), hX3]; exact blk_last w3 _ rfl
      obtain ⟨P, hP⟩ : ∃ P, P = X3.heap.size := ⟨_, rfl⟩
      have hPe : w3.heap.size < P ∧ P ≤ w3.heap.size + 1 := by omega
      have hp4 : X4.heap[P]? = some (.cells #[.int .i64 0, .int .i64 0, .int .i64 0, .int .i64 0] 72 (0, 0)) := by rw [hX4]; exact blk_last X3 _ hP
      have hw3 := hk3.size
      have HP4 : Aside (LPeel U w F b t S lv0 T0 wb mb n id S1 b1 F1 X4) := HLP.out.more ((hp3.below hbX3).below hbX4) (((hk3.below hbX3)).below hbX4) (fun i e => by rw [e]; exact HWB.out.1)
      have HQ4 := Lib.hid hq4
      have HPP4 := Lib.hid hp4
      have HX3 := Lib.hid hX3
      have HX4 := Lib.hid hX4
      have hcb : wb < w3.heap.size := hp3.hand.lt
      have hmbl : mb < w3.heap.size := by obtain ⟨nn, f, hm, _⟩ := hp3.map; exact hm.lt
      have HPNW := Lib.hid (show (∀ i, F1 i → i ≤ P) ∧ wb ≤ P ∧ mb ≤ P from ⟨fun i hi => by have := HFW.out i hi; omega, by omega, by omega⟩)
      have hlow : w.heap.size ≤ w3.heap.size := by have := HWB.out.1; omega
      clear hp3 hk3 hX3 hX4 hbX3 hbX4 hx3 hq4 hp4
      go_upto_region 10 with fail
      rw [← HX3.out]
      go_upto_region 11 with fail
      first | rw [← HX4.out] | (rw [show X3.heap.size = w3.heap.size + 1 by rw [HX3.out]; simp]; rw [← HX4.out])
      rw [← hP]
      clear hP
      go_wp2_with fail
      refine wp_loop_rounds 5 ?_
      rw [rounds_succ]
      have s1 := Joins.cell_of_block HQ4.out 0
      simp at s1
      obtain ⟨⟨a0_0, a0_1, a0_2, a0_3⟩, hre0⟩ : ∃ x, x = r 0 := ⟨_, rfl⟩
      have hkk0 := HR.out.kids2 0 (by omega)
      rw [← hre0, ← HQE.out] at hkk0
      unfold fourV qAt' at hkk0
      simp only at hkk0
      have HKK0 := Lib.hid hkk0
      have hPd := HP4.out.st.below (Below.refl _ X4).drew
      have hPz := (HP4.out.st.below ((Below.refl X4.heap.size X4).alloc (Nat.le_refl _) (.cells #[.int .i64 0, .int .i64 0, .int .i64 0, .int .i64 0] 72 (0, 0)))).below (Below.refl _ _).drew
      have hK0d : Keeps (fun i => i = wb) X4 X4.drew := (Keeps.refl _ _).drew
      have hK0z : Keeps (fun i => i = wb) X4 (X4.alloc (.cells #[.int .i64 0, .int .i64 0, .int .i64 0, .int .i64 0] 72 (0, 0))).drew := ((Keeps.refl _ _).alloc _).drew
      have HCS0 := Lib.hid (show X4.drew.cell? ⟨w3.heap.size, 0, none⟩ = some (.int .i64 q0) from s1)
      have HKE0 := Lib.hid (show ∀ w', Keeps (fun i => i = wb) X4 w' → w'.cell? ⟨w3.heap.size, 0, none⟩ = some (.int .i64 q0) from fun w' hk => (hk.cell (p := ⟨w3.heap.size, 0, none⟩) (lt_of_block HQ4.out) (by simp only; omega)).trans s1)
      have HKD := Lib.hid (show ∀ v, Keeps (fun i => i = wb) X4.drew v → Keeps (fun i => i = wb) X4 v from fun v hk => hK0d.trans hk fun _ _ e => e)
      have HKZ := Lib.hid (show ∀ v, Keeps (fun i => i = wb) (X4.alloc (.cells #[.int .i64 0, .int .i64 0, .int .i64 0, .int .i64 0] 72 (0, 0))).drew v → Keeps (fun i => i = wb) X4 v from fun v hk => hK0z.trans hk fun _ _ e => e)
      have HNZ := Lib.hid (show ∀ v, Keeps (fun i => i = wb) (X4.alloc (.cells #[.int .i64 0, .int .i64 0, .int .i64 0, .int .i64 0] 72 (0, 0))).drew v → v.heap[X4.heap.size]? = some (.cells #[.int .i64 0, .int .i64 0, .int .i64 0, .int .i64 0] 72 (0, 0)) from fun v hk => (hk.block X4.heap.size (by show X4.heap.size < (X4.alloc _).heap.size; simp) (by have := HP4.out.st.hand.lt; omega)).trans (blk_last X4 _ rfl))
      have HPD := Lib.hid hPd
      have HPZ := Lib.hid hPz
      have HKd0 := Lib.hid hK0d
      have HKz0 := Lib.hid hK0z
      have HWl0 := Lib.hid (show P < X4.heap.size from lt_of_block HPP4.out)
      have HRE0 := Lib.hid hre0
      clear hkk0 hre0 hPd hPz hK0d hK0z
      go_upto_region 15 with fail
      go_cut [14] from 49 to 55 (fun s14 wx => ∃ N, s14 = .pointer (some ⟨N, 0, none⟩) ∧ Aside (P < N ∧ PSt b t S1 F1 wb mb b1 wx ∧ Keeps (fun i => i = wb) X4 wx ∧ wx.heap[N]? = some (.cells #[.int .i64 a0_0, .int .i64 a0_1, .int .i64 a0_2, .int .i64 a0_3] 72 (0, 0))))
      case first =>
        clear s1
        go_region_held3 (fun w' => w'.cell? ⟨w3.heap.size, 0, none⟩ = some (.int .i64 q0)) (first | exact HCS0.out | exact HKE0.out _ HKz0.out | exact HKE0.out _ (HKD.out _ (by assumption)) | exact HKE0.out _ (HKZ.out _ (by assumption)) | (refine HKE0.out _ ?_; repeat (first | exact HKD.out _ (by assumption) | exact HKZ.out _ (by assumption) | refine Keeps.setCell ?_ (fun hp => absurd hp (Nat.lt_irrefl _)) _ | refine Keeps.alloc ?_ _))) ((go_at_call 28; first | (with_reducible refine (HKK0.out _ HPD.out).mono ?_; rintro e v0 ⟨rfl, hp, hkp⟩) | (with_reducible refine (HKK0.out _ HPZ.out).mono ?_; rintro e v0 ⟨rfl, hp, hkp⟩; have k0 := Joins.cell_of_block (HNZ.out _ hkp) 0; have k1 := Joins.cell_of_block (HNZ.out _ hkp) 1; have k2 := Joins.cell_of_block (HNZ.out _ hkp) 2; have k3 := Joins.cell_of_block (HNZ.out _ hkp) 3; have kf := fun j => Joins.unfrozen_of_block (HNZ.out _ hkp) j; simp at k0 k1 k2 k3)))
        · have HM := Lib.hid (show P < v0.heap.size ∧ PSt b t S1 F1 wb mb b1 (v0.alloc (.cells #[.int .i64 a0_0, .int .i64 a0_1, .int .i64 a0_2, .int .i64 a0_3] 72 (0, 0))) ∧ Keeps (fun i => i = wb) X4 (v0.alloc (.cells #[.int .i64 a0_0, .int .i64 a0_1, .int .i64 a0_2, .int .i64 a0_3] 72 (0, 0))) ∧ (v0.alloc (.cells #[.int .i64 a0_0, .int .i64 a0_1, .int .i64 a0_2, .int .i64 a0_3] 72 (0, 0))).heap[v0.heap.size]? = some (.cells #[.int .i64 a0_0, .int .i64 a0_1, .int .i64 a0_2, .int .i64 a0_3] 72 (0, 0)) from ⟨by have := (HKD.out _ hkp).size; have := HWl0.out; omega, hp.below ((Below.refl _ _).alloc (Nat.le_refl _) _), (HKD.out _ hkp).alloc _, blk_last v0 _ rfl⟩)
          clear hp hkp
          first | go_meet | (go_wp2_with fail; go_meet)
          exact ⟨_, rfl, HM.out⟩
        · have HM := Lib.hid (relK_four (mb := mb) (b := b) (t := t) (S := S1) (F := F1) (bad := b1) (B := P) HWl0.out hp (HKZ.out _ hkp) (HNZ.out _ hkp) HPNW.out a0_0 a0_1 a0_2 a0_3)
          clear hp hkp
          first | go_meet | (go_wp2_with fail; go_meet)
          exact ⟨_, rfl, HM.out⟩
      case rest =>
      obtain ⟨N0, rfl, hcr⟩ := hcut
      obtain ⟨hNl, hp, hkp, hrZ⟩ := hcr.out
      obtain ⟨Z0, hZ⟩ : ∃ Z, Z = wc := ⟨_, rfl⟩
      rw [← hZ] at hp hkp hrZ
      have hbZ : Below Z0.heap.size Z0 Z0 := Below.refl _ _
      have hsv : X4.heap.size ≤ Z0.heap.size := hkp.size
      have hqZ := (hkp.block w3.heap.size (lt_of_block HQ4.out) (by omega)).trans HQ4.out
      have hpZ := (hkp.block (P) (lt_of_block HPP4.out) (by omega)).trans HPP4.out
      obtain ⟨Y0, hY⟩ : ∃ X, X = Z0.setCell ⟨P, 0, none⟩ (.int .i64 a0_3) := ⟨_, rfl⟩
      have hPY : LPeel U w F b t S lv0 T0 wb mb n id S1 b1 F1 Y0 := by
        have h1 := HP4.out.more hp hkp (fun i e => by rw [e]; exact HWB.out.1)
        have hk : Keeps (fun i => i = P) Z0 Y0 := by rw [hY]; exact Keeps.setCell (p := ⟨P, 0, none⟩) (Keeps.refl (fun i => i = P) _) (fun _ => rfl) _
        refine h1.more (h1.st.keep hk (fun i e => ⟨fun hF => by have := HFW.out i hF; omega, by omega, by omega⟩)) hk (fun i e => by omega)
      have hqY : Y0.heap[w3.heap.size]? = some (.cells #[.int .i64 q0, .int .i64 q1, .int .i64 q2, .int .i64 q3] 72 (0, 0)) := by rw [hY, Below.heap_setCell _ _ _ _ (by show w3.heap.size ≠ P; omega)]; exact hqZ
      have hpY : Y0.heap[P]? = some (.cells #[.int .i64 a0_3, .int .i64 0, .int .i64 0, .int .i64 0] 72 (0, 0)) := by rw [hY]; exact Joins.block_setCell (i := 0) hpZ _
      have hrY : Y0.heap[N0]? = some (.cells #[.int .i64 a0_0, .int .i64 a0_1, .int .i64 a0_2, .int .i64 a0_3] 72 (0, 0)) := by rw [hY, Below.heap_setCell _ _ _ _ (by show N0 ≠ P; omega)]; exact hrZ
      have r0 := Joins.cell_of_block hrZ 3
      simp at r0
      have p0 := Joins.cell_of_block hpZ 0
      simp at p0
      have p1 := Joins.unfrozen_of_block hpZ 0
      have hlt1 : N0 < Z0.heap.size := lt_of_block hrZ
      have HPY0 := Lib.hid hPY
      have HQY0 := Lib.hid hqY
      have HPPY0 := Lib.hid hpY
      have HRY0 := Lib.hid hrY
      have HZ0 := Lib.hid hZ
      have HY0 := Lib.hid hY
      have HVK0 := Lib.hid (show P < N0 from hNl)
      clear hp hkp hZ hbZ hrZ hsv hqZ hpZ hY hPY hqY hpY hrY HCS0 HKE0 HKK0 HKD HKZ HNZ HPD HPZ HKd0 HKz0 hcr hNl s1
      rw [← HZ0.out]
      go_upto_region 16 with fail
      go_upto_region 17 with fail
      rw [← HY0.out]
      clear r0 p0 p1
      obtain ⟨fb0, hfb⟩ : ∃ x : Bool, x = true := ⟨_, rfl⟩
      have HFB0 := Lib.hid hfb
      try rw [← hfb]
      clear hfb
      go_wp2_with fail
      go_loopw [12, 15, 62] (fun fv _ jv ws => ∃ j : Nat, jv = .int .i64 j ∧ j ≤ 4 ∧ fv = .bool (fb0 && rimB (eb 0) 3 j) ∧ Aside (PSt b t S1 F1 wb mb b1 ws) ∧ Aside (Keeps (fun i => i = wb ∨ i = mb) Y0 ws)) (fun _ _ jv _ => 4 - (intOf jv).toNat)
      case atStart => exact ⟨0, rfl, by omega, by simp [rimB], HPY0.out.st, Keeps.refl _ _⟩
      case round =>
        obtain ⟨j, rfl, hj, rfl, HPS, HKP⟩ := hrel
        by_cases hj4 : j < 4
        · have u1 : decide ((j : Int) < 4) = true := decide_eq_true (by omega)
          have u2 : decide (j < 4) = true := decide_eq_true hj4
          obtain ⟨fj, hfj⟩ : ∃ x, x = (fb0 && rimB (eb 0) 3 j) := ⟨_, rfl⟩
          have hnx : (fb0 && rimB (eb 0) 3 (j + 1)) = (fj && (decide (j = 3) || eb 0 j)) := by rw [hfj, rimB, Bool.and_assoc]
          have HNX := Lib.hid hnx
          rw [← hfj]
          clear hnx hfj
          cases fj with
          | false =>
            go_wp2_with fail
            exact ⟨⟨j + 1, by go_num, hj4, by rw [HNX.out]; rfl, HPS, HKP⟩, by simp [intOf]; omega⟩
          | true =>
            by_cases hjm : j = 3
            · have v1 : ((j : Int) == 3) = true := by simp; omega
              have v2 : (j == 3) = true := by simp; omega
              have v3 : decide (j = 3) = true := decide_eq_true hjm
              go_wp2_with fail
              exact ⟨⟨j + 1, by go_num, hj4, by rw [HNX.out, v3]; rfl, HPS, HKP⟩, by simp [intOf]; omega⟩
            · have v1 : ((j : Int) == 3) = false := by simp; omega
              have v2 : (j == 3) = false := by simp; omega
              have v3 : decide (j = 3) = false := decide_eq_false hjm
              have hrw := (HKP.out.block N0 (lt_of_block HRY0.out) (by have := HVK0.out; omega)).trans HRY0.out
              have hrc : wr.cell? ⟨N0, j, none⟩ = some (.int .i64 (qAt' (r 0) j)) := by
                rw [Joins.cell_of_block hrw, ← HRE0.out]
                rcases (show j = 0 ∨ j = 1 ∨ j = 2 ∨ j = 3 by omega) with rfl | rfl | rfl | rfl <;> rfl
              have HEM := Lib.hid (HR.out.empty 0 j (by omega) hj4 wr HPS.out)
              obtain ⟨ej, hej⟩ : ∃ x, x = eb 0 j := ⟨_, rfl⟩
              rw [← hej] at HEM HNX
              clear hrw hej hjm
              go_wp2_with fail
              with_reducible refine HEM.out.mono ?_
              rintro e w5 ⟨rfl, hp5, hk5⟩
              have HP5 : Aside (PSt b t S1 F1 wb mb b1 w5) := hp5
              have HK5 : Aside (Keeps (fun i => i = wb ∨ i = mb) Y0 w5) := HKP.out.trans hk5 (fun _ _ e => e)
              clear hp5 hk5
              go_wp2_with fail
              refine ⟨⟨j + 1, by go_num, hj4, ?_, HP5, HK5⟩, by simp [intOf]; omega⟩
              rw [HNX.out, v3]; simp
        · have hj4' : j = 4 := by omega
          subst hj4'
          have HQW0 := Lib.hid ((HKP.out.block w3.heap.size (lt_of_block HQY0.out) (by omega)).trans HQY0.out)
          have HPW0 := Lib.hid ((HKP.out.block (P) (lt_of_block HPPY0.out) (by omega)).trans HPPY0.out)
          have HPL0 := Lib.hid (HPY0.out.more HPS.out HKP.out (fun i e => by have := HWB.out; omega))
          obtain ⟨V0, hV⟩ : ∃ V, V = wr := ⟨_, rfl⟩
          subst hV
          clear hj hj4 HPS HKP
          rw [show ((4 : Nat) : Int) = (4 : Int) from rfl]
          go_wp2_with fail
          rw [rounds_succ]
          have s1 := Joins.cell_of_block HQW0.out 1
          simp at s1
          obtain ⟨⟨a1_0, a1_1, a1_2, a1_3⟩, hre1⟩ : ∃ x, x = r 1 := ⟨_, rfl⟩
          have hkk1 := HR.out.kids2 1 (by omega)
          rw [← hre1, ← HQE.out] at hkk1
          unfold fourV qAt' at hkk1
          simp only at hkk1
          have HKK1 := Lib.hid hkk1
          have hPd := HPL0.out.st.below (Below.refl _ V0).drew
          have hPz := (HPL0.out.st.below ((Below.refl V0.heap.size V0).alloc (Nat.le_refl _) (.cells #[.int .i64 0, .int .i64 0, .int .i64 0, .int .i64 0] 72 (0, 0)))).below (Below.refl _ _).drew
          have hK0d : Keeps (fun i => i = wb) V0 V0.drew := (Keeps.refl _ _).drew
          have hK0z : Keeps (fun i => i = wb) V0 (V0.alloc (.cells #[.int .i64 0, .int .i64 0, .int .i64 0, .int .i64 0] 72 (0, 0))).drew := ((Keeps.refl _ _).alloc _).drew
          have HCS1 := Lib.hid (show V0.drew.cell? ⟨w3.heap.size, 1, none⟩ = some (.int .i64 q1) from s1)
          have HKE1 := Lib.hid (show ∀ w', Keeps (fun i => i = wb) V0 w' → w'.cell? ⟨w3.heap.size, 1, none⟩ = some (.int .i64 q1) from fun w' hk => (hk.cell (p := ⟨w3.heap.size, 1, none⟩) (lt_of_block HQW0.out) (by simp only; omega)).trans s1)
          have HKD := Lib.hid (show ∀ v, Keeps (fun i => i = wb) V0.drew v → Keeps (fun i => i = wb) V0 v from fun v hk => hK0d.trans hk fun _ _ e => e)
          have HKZ := Lib.hid (show ∀ v, Keeps (fun i => i = wb) (V0.alloc (.cells #[.int .i64 0, .int .i64 0, .int .i64 0, .int .i64 0] 72 (0, 0))).drew v → Keeps (fun i => i = wb) V0 v from fun v hk => hK0z.trans hk fun _ _ e => e)
          have HNZ := Lib.hid (show ∀ v, Keeps (fun i => i = wb) (V0.alloc (.cells #[.int .i64 0, .int .i64 0, .int .i64 0, .int .i64 0] 72 (0, 0))).drew v → v.heap[V0.heap.size]? = some (.cells #[.int .i64 0, .int .i64 0, .int .i64 0, .int .i64 0] 72 (0, 0)) from fun v hk => (hk.block V0.heap.size (by show V0.heap.size < (V0.alloc _).heap.size; simp) (by have := HPL0.out.st.hand.lt; omega)).trans (blk_last V0 _ rfl))
          have HPD := Lib.hid hPd
          have HPZ := Lib.hid hPz
          have HKd0 := Lib.hid hK0d
          have HKz0 := Lib.hid hK0z
          have HWl1 := Lib.hid (show P < V0.heap.size from lt_of_block HPW0.out)
          have HRE1 := Lib.hid hre1
          clear hkk1 hre1 hPd hPz hK0d hK0z
          go_upto_region 15 with fail
          go_cut [14] from 49 to 55 (fun s14 wx => ∃ N, s14 = .pointer (some ⟨N, 0, none⟩) ∧ Aside (P < N ∧ PSt b t S1 F1 wb mb b1 wx ∧ Keeps (fun i => i = wb) V0 wx ∧ wx.heap[N]? = some (.cells #[.int .i64 a1_0, .int .i64 a1_1, .int .i64 a1_2, .int .i64 a1_3] 72 (0, 0))))
          case first =>
            clear s1
            go_region_held3 (fun w' => w'.cell? ⟨w3.heap.size, 1, none⟩ = some (.int .i64 q1)) (first | exact HCS1.out | exact HKE1.out _ HKz0.out | exact HKE1.out _ (HKD.out _ (by assumption)) | exact HKE1.out _ (HKZ.out _ (by assumption)) | (refine HKE1.out _ ?_; repeat (first | exact HKD.out _ (by assumption) | exact HKZ.out _ (by assumption) | refine Keeps.setCell ?_ (fun hp => absurd hp (Nat.lt_irrefl _)) _ | refine Keeps.alloc ?_ _))) ((go_at_call 28; first | (with_reducible refine (HKK1.out _ HPD.out).mono ?_; rintro e v1 ⟨rfl, hp, hkp⟩) | (with_reducible refine (HKK1.out _ HPZ.out).mono ?_; rintro e v1 ⟨rfl, hp, hkp⟩; have k0 := Joins.cell_of_block (HNZ.out _ hkp) 0; have k1 := Joins.cell_of_block (HNZ.out _ hkp) 1; have k2 := Joins.cell_of_block (HNZ.out _ hkp) 2; have k3 := Joins.cell_of_block (HNZ.out _ hkp) 3; have kf := fun j => Joins.unfrozen_of_block (HNZ.out _ hkp) j; simp at k0 k1 k2 k3)))
            · have HM := Lib.hid (show P < v1.heap.size ∧ PSt b t S1 F1 wb mb b1 (v1.alloc (.cells #[.int .i64 a1_0, .int .i64 a1_1, .int .i64 a1_2, .int .i64 a1_3] 72 (0, 0))) ∧ Keeps (fun i => i = wb) V0 (v1.alloc (.cells #[.int .i64 a1_0, .int .i64 a1_1, .int .i64 a1_2, .int .i64 a1_3] 72 (0, 0))) ∧ (v1.alloc (.cells #[.int .i64 a1_0, .int .i64 a1_1, .int .i64 a1_2, .int .i64 a1_3] 72 (0, 0))).heap[v1.heap.size]? = some (.cells #[.int .i64 a1_0, .int .i64 a1_1, .int .i64 a1_2, .int .i64 a1_3] 72 (0, 0)) from ⟨by have := (HKD.out _ hkp).size; have := HWl1.out; omega, hp.below ((Below.refl _ _).alloc (Nat.le_refl _) _), (HKD.out _ hkp).alloc _, blk_last v1 _ rfl⟩)
              clear hp hkp
              first | go_meet | (go_wp2_with fail; go_meet)
              exact ⟨_, rfl, HM.out⟩
            · have HM := Lib.hid (relK_four (mb := mb) (b := b) (t := t) (S := S1) (F := F1) (bad := b1) (B := P) HWl1.out hp (HKZ.out _ hkp) (HNZ.out _ hkp) HPNW.out a1_0 a1_1 a1_2 a1_3)
              clear hp hkp
              first | go_meet | (go_wp2_with fail; go_meet)
              exact ⟨_, rfl, HM.out⟩
          case rest =>
          obtain ⟨N1, rfl, hcr⟩ := hcut
          obtain ⟨hNl, hp, hkp, hrZ⟩ := hcr.out
          obtain ⟨Z1, hZ⟩ : ∃ Z, Z = wc := ⟨_, rfl⟩
          rw [← hZ] at hp hkp hrZ
          have hbZ : Below Z1.heap.size Z1 Z1 := Below.refl _ _
          have hsv : V0.heap.size ≤ Z1.heap.size := hkp.size
          have hqZ := (hkp.block w3.heap.size (lt_of_block HQW0.out) (by omega)).trans HQW0.out
          have hpZ := (hkp.block (P) (lt_of_block HPW0.out) (by omega)).trans HPW0.out
          obtain ⟨Y1, hY⟩ : ∃ X, X = Z1.setCell ⟨P, 1, none⟩ (.int .i64 a1_2) := ⟨_, rfl⟩
          have hPY : LPeel U w F b t S lv0 T0 wb mb n id S1 b1 F1 Y1 := by
            have h1 := HPL0.out.more hp hkp (fun i e => by rw [e]; exact HWB.out.1)
            have hk : Keeps (fun i => i = P) Z1 Y1 := by rw [hY]; exact Keeps.setCell (p := ⟨P, 1, none⟩) (Keeps.refl (fun i => i = P) _) (fun _ => rfl) _
            refine h1.more (h1.st.keep hk (fun i e => ⟨fun hF => by have := HFW.out i hF; omega, by omega, by omega⟩)) hk (fun i e => by omega)
          have hqY : Y1.heap[w3.heap.size]? = some (.cells #[.int .i64 q0, .int .i64 q1, .int .i64 q2, .int .i64 q3] 72 (0, 0)) := by rw [hY, Below.heap_setCell _ _ _ _ (by show w3.heap.size ≠ P; omega)]; exact hqZ
          have hpY : Y1.heap[P]? = some (.cells #[.int .i64 a0_3, .int .i64 a1_2, .int .i64 0, .int .i64 0] 72 (0, 0)) := by rw [hY]; exact Joins.block_setCell (i := 1) hpZ _
          have hrY : Y1.heap[N1]? = some (.cells #[.int .i64 a1_0, .int .i64 a1_1, .int .i64 a1_2, .int .i64 a1_3] 72 (0, 0)) := by rw [hY, Below.heap_setCell _ _ _ _ (by show N1 ≠ P; omega)]; exact hrZ
          have r0 := Joins.cell_of_block hrZ 2
          simp at r0
          have p0 := Joins.cell_of_block hpZ 1
          simp at p0
          have p1 := Joins.unfrozen_of_block hpZ 1
          have hlt1 : N1 < Z1.heap.size := lt_of_block hrZ
          have HPY1 := Lib.hid hPY
          have HQY1 := Lib.hid hqY
          have HPPY1 := Lib.hid hpY
          have HRY1 := Lib.hid hrY
          have HZ1 := Lib.hid hZ
          have HY1 := Lib.hid hY
          have HVK1 := Lib.hid (show P < N1 from hNl)
          clear hp hkp hZ hbZ hrZ hsv hqZ hpZ hY hPY hqY hpY hrY HCS1 HKE1 HKK1 HKD HKZ HNZ HPD HPZ HKd0 HKz0 hcr hNl s1
          rw [← HZ1.out]
          go_upto_region 16 with fail
          go_upto_region 17 with fail
          rw [← HY1.out]
          clear r0 p0 p1
          obtain ⟨fb1, hfb⟩ : ∃ x : Bool, x = (fb0 && rimB (eb 0) 3 4) := ⟨_, rfl⟩
          have HFB1 := Lib.hid hfb
          try rw [← hfb]
          clear hfb
          go_wp2_with fail
          go_loopw [12, 15, 62] (fun fv _ jv ws => ∃ j : Nat, jv = .int .i64 j ∧ j ≤ 4 ∧ fv = .bool (fb1 && rimB (eb 1) 2 j) ∧ Aside (PSt b t S1 F1 wb mb b1 ws) ∧ Aside (Keeps (fun i => i = wb ∨ i = mb) Y1 ws)) (fun _ _ jv _ => 4 - (intOf jv).toNat)
          case atStart => exact ⟨0, rfl, by omega, by simp [rimB], HPY1.out.st, Keeps.refl _ _⟩
          case round =>
            obtain ⟨j, rfl, hj, rfl, HPS, HKP⟩ := hrel
            by_cases hj4 : j < 4
            · have u1 : decide ((j : Int) < 4) = true := decide_eq_true (by omega)
              have u2 : decide (j < 4) = true := decide_eq_true hj4
              obtain ⟨fj, hfj⟩ : ∃ x, x = (fb1 && rimB (eb 1) 2 j) := ⟨_, rfl⟩
              have hnx : (fb1 && rimB (eb 1) 2 (j + 1)) = (fj && (decide (j = 2) || eb 1 j)) := by rw [hfj, rimB, Bool.and_assoc]
              have HNX := Lib.hid hnx
              rw [← hfj]
              clear hnx hfj
              cases fj with
              | false =>
                go_wp2_with fail
                exact ⟨⟨j + 1, by go_num, hj4, by rw [HNX.out]; rfl, HPS, HKP⟩, by simp [intOf]; omega⟩
              | true =>
                by_cases hjm : j = 2
                · have v1 : ((j : Int) == 2) = true := by simp; omega
                  have v2 : (j == 2) = true := by simp; omega
                  have v3 : decide (j = 2) = true := decide_eq_true hjm
                  go_wp2_with fail
                  exact ⟨⟨j + 1, by go_num, hj4, by rw [HNX.out, v3]; rfl, HPS, HKP⟩, by simp [intOf]; omega⟩
                · have v1 : ((j : Int) == 2) = false := by simp; omega
                  have v2 : (j == 2) = false := by simp; omega
                  have v3 : decide (j = 2) = false := decide_eq_false hjm
                  have hrw := (HKP.out.block N1 (lt_of_block HRY1.out) (by have := HVK1.out; omega)).trans HRY1.out
                  have hrc : wr.cell? ⟨N1, j, none⟩ = some (.int .i64 (qAt' (r 1) j)) := by
                    rw [Joins.cell_of_block hrw, ← HRE1.out]
                    rcases (show j = 0 ∨ j = 1 ∨ j = 2 ∨ j = 3 by omega) with rfl | rfl | rfl | rfl <;> rfl
                  have HEM := Lib.hid (HR.out.empty 1 j (by omega) hj4 wr HPS.out)
                  obtain ⟨ej, hej⟩ : ∃ x, x = eb 1 j := ⟨_, rfl⟩
                  rw [← hej] at HEM HNX
                  clear hrw hej hjm
                  go_wp2_with fail
                  with_reducible refine HEM.out.mono ?_
                  rintro e w5 ⟨rfl, hp5, hk5⟩
                  have HP5 : Aside (PSt b t S1 F1 wb mb b1 w5) := hp5
                  have HK5 : Aside (Keeps (fun i => i = wb ∨ i = mb) Y1 w5) := HKP.out.trans hk5 (fun _ _ e => e)
                  clear hp5 hk5
                  go_wp2_with fail
                  refine ⟨⟨j + 1, by go_num, hj4, ?_, HP5, HK5⟩, by simp [intOf]; omega⟩
                  rw [HNX.out, v3]; simp
            · have hj4' : j = 4 := by omega
              subst hj4'
              have HQW1 := Lib.hid ((HKP.out.block w3.heap.size (lt_of_block HQY1.out) (by omega)).trans HQY1.out)
              have HPW1 := Lib.hid ((HKP.out.block (P) (lt_of_block HPPY1.out) (by omega)).trans HPPY1.out)
              have HPL1 := Lib.hid (HPY1.out.more HPS.out HKP.out (fun i e => by have := HWB.out; omega))
              obtain ⟨V1, hV⟩ : ∃ V, V = wr := ⟨_, rfl⟩
              subst hV
              clear hj hj4 HPS HKP
              rw [show ((4 : Nat) : Int) = (4 : Int) from rfl]
              go_wp2_with fail
              rw [rounds_succ]
              have s1 := Joins.cell_of_block HQW1.out 2
              simp at s1
              obtain ⟨⟨a2_0, a2_1, a2_2, a2_3⟩, hre2⟩ : ∃ x, x = r 2 := ⟨_, rfl⟩
              have hkk2 := HR.out.kids2 2 (by omega)
              rw [← hre2, ← HQE.out] at hkk2
              unfold fourV qAt' at hkk2
              simp only at hkk2
              have HKK2 := Lib.hid hkk2
              have hPd := HPL1.out.st.below (Below.refl _ V1).drew
              have hPz := (HPL1.out.st.below ((Below.refl V1.heap.size V1).alloc (Nat.le_refl _) (.cells #[.int .i64 0, .int .i64 0, .int .i64 0, .int .i64 0] 72 (0, 0)))).below (Below.refl _ _).drew
              have hK0d : Keeps (fun i => i = wb) V1 V1.drew := (Keeps.refl _ _).drew
              have hK0z : Keeps (fun i => i = wb) V1 (V1.alloc (.cells #[.int .i64 0, .int .i64 0, .int .i64 0, .int .i64 0] 72 (0, 0))).drew := ((Keeps.refl _ _).alloc _).drew
              have HCS2 := Lib.hid (show V1.drew.cell? ⟨w3.heap.size, 2, none⟩ = some (.int .i64 q2) from s1)
              have HKE2 := Lib.hid (show ∀ w', Keeps (fun i => i = wb) V1 w' → w'.cell? ⟨w3.heap.size, 2, none⟩ = some (.int .i64 q2) from fun w' hk => (hk.cell (p := ⟨w3.heap.size, 2, none⟩) (lt_of_block HQW1.out) (by simp only; omega)).trans s1)
              have HKD := Lib.hid (show ∀ v, Keeps (fun i => i = wb) V1.drew v → Keeps (fun i => i = wb) V1 v from fun v hk => hK0d.trans hk fun _ _ e => e)
              have HKZ := Lib.hid (show ∀ v, Keeps (fun i => i = wb) (V1.alloc (.cells #[.int .i64 0, .int .i64 0, .int .i64 0, .int .i64 0] 72 (0, 0))).drew v → Keeps (fun i => i = wb) V1 v from fun v hk => hK0z.trans hk fun _ _ e => e)
              have HNZ := Lib.hid (show ∀ v, Keeps (fun i => i = wb) (V1.alloc (.cells #[.int .i64 0, .int .i64 0, .int .i64 0, .int .i64 0] 72 (0, 0))).drew v → v.heap[V1.heap.size]? = some (.cells #[.int .i64 0, .int .i64 0, .int .i64 0, .int .i64 0] 72 (0, 0)) from fun v hk => (hk.block V1.heap.size (by show V1.heap.size < (V1.alloc _).heap.size; simp) (by have := HPL1.out.st.hand.lt; omega)).trans (blk_last V1 _ rfl))
              have HPD := Lib.hid hPd
              have HPZ := Lib.hid hPz
              have HKd0 := Lib.hid hK0d
              have HKz0 := Lib.hid hK0z
              have HWl2 := Lib.hid (show P < V1.heap.size from lt_of_block HPW1.out)
              have HRE2 := Lib.hid hre2
              clear hkk2 hre2 hPd hPz hK0d hK0z
              go_upto_region 15 with fail
              go_cut [14] from 49 to 55 (fun s14 wx => ∃ N, s14 = .pointer (some ⟨N, 0, none⟩) ∧ Aside (P < N ∧ PSt b t S1 F1 wb mb b1 wx ∧ Keeps (fun i => i = wb) V1 wx ∧ wx.heap[N]? = some (.cells #[.int .i64 a2_0, .int .i64 a2_1, .int .i64 a2_2, .int .i64 a2_3] 72 (0, 0))))
              case first =>
                clear s1
                go_region_held3 (fun w' => w'.cell? ⟨w3.heap.size, 2, none⟩ = some (.int .i64 q2)) (first | exact HCS2.out | exact HKE2.out _ HKz0.out | exact HKE2.out _ (HKD.out _ (by assumption)) | exact HKE2.out _ (HKZ.out _ (by assumption)) | (refine HKE2.out _ ?_; repeat (first | exact HKD.out _ (by assumption) | exact HKZ.out _ (by assumption) | refine Keeps.setCell ?_ (fun hp => absurd hp (Nat.lt_irrefl _)) _ | refine Keeps.alloc ?_ _))) ((go_at_call 28; first | (with_reducible refine (HKK2.out _ HPD.out).mono ?_; rintro e v2 ⟨rfl, hp, hkp⟩) | (with_reducible refine (HKK2.out _ HPZ.out).mono ?_; rintro e v2 ⟨rfl, hp, hkp⟩; have k0 := Joins.cell_of_block (HNZ.out _ hkp) 0; have k1 := Joins.cell_of_block (HNZ.out _ hkp) 1; have k2 := Joins.cell_of_block (HNZ.out _ hkp) 2; have k3 := Joins.cell_of_block (HNZ.out _ hkp) 3; have kf := fun j => Joins.unfrozen_of_block (HNZ.out _ hkp) j; simp at k0 k1 k2 k3)))
                · have HM := Lib.hid (show P < v2.heap.size ∧ PSt b t S1 F1 wb mb b1 (v2.alloc (.cells #[.int .i64 a2_0, .int .i64 a2_1, .int .i64 a2_2, .int .i64 a2_3] 72 (0, 0))) ∧ Keeps (fun i => i = wb) V1 (v2.alloc (.cells #[.int .i64 a2_0, .int .i64 a2_1, .int .i64 a2_2, .int .i64 a2_3] 72 (0, 0))) ∧ (v2.alloc (.cells #[.int .i64 a2_0, .int .i64 a2_1, .int .i64 a2_2, .int .i64 a2_3] 72 (0, 0))).heap[v2.heap.size]? = some (.cells #[.int .i64 a2_0, .int .i64 a2_1, .int .i64 a2_2, .int .i64 a2_3] 72 (0, 0)) from ⟨by have := (HKD.out _ hkp).size; have := HWl2.out; omega, hp.below ((Below.refl _ _).alloc (Nat.le_refl _) _), (HKD.out _ hkp).alloc _, blk_last v2 _ rfl⟩)
                  clear hp hkp
                  first | go_meet | (go_wp2_with fail; go_meet)
                  exact ⟨_, rfl, HM.out⟩
                · have HM := Lib.hid (relK_four (mb := mb) (b := b) (t := t) (S := S1) (F := F1) (bad := b1) (B := P) HWl2.out hp (HKZ.out _ hkp) (HNZ.out _ hkp) HPNW.out a2_0 a2_1 a2_2 a2_3)
                  clear hp hkp
                  first | go_meet | (go_wp2_with fail; go_meet)
                  exact ⟨_, rfl, HM.out⟩
              case rest =>
              obtain ⟨N2, rfl, hcr⟩ := hcut
              obtain ⟨hNl, hp, hkp, hrZ⟩ := hcr.out
              obtain ⟨Z2, hZ⟩ : ∃ Z, Z = wc := ⟨_, rfl⟩
              rw [← hZ] at hp hkp hrZ
              have hbZ : Below Z2.heap.size Z2 Z2 := Below.refl _ _
              have hsv : V1.heap.size ≤ Z2.heap.size := hkp.size
              have hqZ := (hkp.block w3.heap.size (lt_of_block HQW1.out) (by omega)).trans HQW1.out
              have hpZ := (hkp.block (P) (lt_of_block HPW1.out) (by omega)).trans HPW1.out
              obtain ⟨Y2, hY⟩ : ∃ X, X = Z2.setCell ⟨P, 2, none⟩ (.int .i64 a2_1) := ⟨_, rfl⟩
              have hPY : LPeel U w F b t S lv0 T0 wb mb n id S1 b1 F1 Y2 := by
                have h1 := HPL1.out.more hp hkp (fun i e => by rw [e]; exact HWB.out.1)
                have hk : Keeps (fun i => i = P) Z2 Y2 := by rw [hY]; exact Keeps.setCell (p := ⟨P, 2, none⟩) (Keeps.refl (fun i => i = P) _) (fun _ => rfl) _
                refine h1.more (h1.st.keep hk (fun i e => ⟨fun hF => by have := HFW.out i hF; omega, by omega, by omega⟩)) hk (fun i e => by omega)
              have hqY : Y2.heap[w3.heap.size]? = some (.cells #[.int .i64 q0, .int .i64 q1, .int .i64 q2, .int .i64 q3] 72 (0, 0)) := by rw [hY, Below.heap_setCell _ _ _ _ (by show w3.heap.size ≠ P; omega)]; exact hqZ
              have hpY : Y2.heap[P]? = some (.cells #[.int .i64 a0_3, .int .i64 a1_2, .int .i64 a2_1, .int .i64 0] 72 (0, 0)) := by rw [hY]; exact Joins.block_setCell (i := 2) hpZ _
              have hrY : Y2.heap[N2]? = some (.cells #[.int .i64 a2_0, .int .i64 a2_1, .int .i64 a2_2, .int .i64 a2_3] 72 (0, 0)) := by rw [hY, Below.heap_setCell _ _ _ _ (by show N2 ≠ P; omega)]; exact hrZ
              have r0 := Joins.cell_of_block hrZ 1
              simp at r0
              have p0 := Joins.cell_of_block hpZ 2
              simp at p0
              have p1 := Joins.unfrozen_of_block hpZ 2
              have hlt1 : N2 < Z2.heap.size := lt_of_block hrZ
              have HPY2 := Lib.hid hPY
              have HQY2 := Lib.hid hqY
              have HPPY2 := Lib.hid hpY
              have HRY2 := Lib.hid hrY
              have HZ2 := Lib.hid hZ
              have HY2 := Lib.hid hY
              have HVK2 := Lib.hid (show P < N2 from hNl)
              clear hp hkp hZ hbZ hrZ hsv hqZ hpZ hY hPY hqY hpY hrY HCS2 HKE2 HKK2 HKD HKZ HNZ HPD HPZ HKd0 HKz0 hcr hNl s1
              rw [← HZ2.out]
              go_upto_region 16 with fail
              go_upto_region 17 with fail
              rw [← HY2.out]
              clear r0 p0 p1
              obtain ⟨fb2, hfb⟩ : ∃ x : Bool, x = (fb1 && rimB (eb 1) 2 4) := ⟨_, rfl⟩
              have HFB2 := Lib.hid hfb
              try rw [← hfb]
              clear hfb
              go_wp2_with fail
              go_loopw [12, 15, 62] (fun fv _ jv ws => ∃ j : Nat, jv = .int .i64 j ∧ j ≤ 4 ∧ fv = .bool (fb2 && rimB (eb 2) 1 j) ∧ Aside (PSt b t S1 F1 wb mb b1 ws) ∧ Aside (Keeps (fun i => i = wb ∨ i = mb) Y2 ws)) (fun _ _ jv _ => 4 - (intOf jv).toNat)
              case atStart => exact ⟨0, rfl, by omega, by simp [rimB], HPY2.out.st, Keeps.refl _ _⟩
              case round =>
                obtain ⟨j, rfl, hj, rfl, HPS, HKP⟩ := hrel
                by_cases hj4 : j < 4
                · have u1 : decide ((j : Int) < 4) = true := decide_eq_true (by omega)
                  have u2 : decide (j < 4) = true := decide_eq_true hj4
                  obtain ⟨fj, hfj⟩ : ∃ x, x = (fb2 && rimB (eb 2) 1 j) := ⟨_, rfl⟩
                  have hnx : (fb2 && rimB (eb 2) 1 (j + 1)) = (fj && (decide (j = 1) || eb 2 j)) := by rw [hfj, rimB, Bool.and_assoc]
                  have HNX := Lib.hid hnx
                  rw [← hfj]
                  clear hnx hfj
                  cases fj with
                  | false =>
                    go_wp2_with fail
                    exact ⟨⟨j + 1, by go_num, hj4, by rw [HNX.out]; rfl, HPS, HKP⟩, by simp [intOf]; omega⟩
                  | true =>
                    by_cases hjm : j = 1
                    · have v1 : ((j : Int) == 1) = true := by simp; omega
                      have v2 : (j == 1) = true := by simp; omega
                      have v3 : decide (j = 1) = true := decide_eq_true hjm
                      go_wp2_with fail
                      exact ⟨⟨j + 1, by go_num, hj4, by rw [HNX.out, v3]; rfl, HPS, HKP⟩, by simp [intOf]; omega⟩
                    · have v1 : ((j : Int) == 1) = false := by simp; omega
                      have v2 : (j == 1) = false := by simp; omega
                      have v3 : decide (j = 1) = false := decide_eq_false hjm
                      have hrw := (HKP.out.block N2 (lt_of_block HRY2.out) (by have := HVK2.out; omega)).trans HRY2.out
                      have hrc : wr.cell? ⟨N2, j, none⟩ = some (.int .i64 (qAt' (r 2) j)) := by
                        rw [Joins.cell_of_block hrw, ← HRE2.out]
                        rcases (show j = 0 ∨ j = 1 ∨ j = 2 ∨ j = 3 by omega) with rfl | rfl | rfl | rfl <;> rfl
                      have HEM := Lib.hid (HR.out.empty 2 j (by omega) hj4 wr HPS.out)
                      obtain ⟨ej, hej⟩ : ∃ x, x = eb 2 j := ⟨_, rfl⟩
                      rw [← hej] at HEM HNX
                      clear hrw hej hjm
                      go_wp2_with fail
                      with_reducible refine HEM.out.mono ?_
                      rintro e w5 ⟨rfl, hp5, hk5⟩
                      have HP5 : Aside (PSt b t S1 F1 wb mb b1 w5) := hp5
                      have HK5 : Aside (Keeps (fun i => i = wb ∨ i = mb) Y2 w5) := HKP.out.trans hk5 (fun _ _ e => e)
                      clear hp5 hk5
                      go_wp2_with fail
                      refine ⟨⟨j + 1, by go_num, hj4, ?_, HP5, HK5⟩, by simp [intOf]; omega⟩
                      rw [HNX.out, v3]; simp
                · have hj4' : j = 4 := by omega
                  subst hj4'
                  have HQW2 := Lib.hid ((HKP.out.block w3.heap.size (lt_of_block HQY2.out) (by omega)).trans HQY2.out)
                  have HPW2 := Lib.hid ((HKP.out.block (P) (lt_of_block HPPY2.out) (by omega)).trans HPPY2.out)
                  have HPL2 := Lib.hid (HPY2.out.more HPS.out HKP.out (fun i e => by have := HWB.out; omega))
                  obtain ⟨V2, hV⟩ : ∃ V, V = wr := ⟨_, rfl⟩
                  subst hV
                  clear hj hj4 HPS HKP
                  rw [show ((4 : Nat) : Int) = (4 : Int) from rfl]
                  go_wp2_with fail
                  rw [rounds_succ]
                  have s1 := Joins.cell_of_block HQW2.out 3
                  simp at s1
                  obtain ⟨⟨a3_0, a3_1, a3_2, a3_3⟩, hre3⟩ : ∃ x, x = r 3 := ⟨_, rfl⟩
                  have hkk3 := HR.out.kids2 3 (by omega)
                  rw [← hre3, ← HQE.out] at hkk3
                  unfold fourV qAt' at hkk3
                  simp only at hkk3
                  have HKK3 := Lib.hid hkk3
                  have hPd := HPL2.out.st.below (Below.refl _ V2).drew
                  have hPz := (HPL2.out.st.below ((Below.refl V2.heap.size V2).alloc (Nat.le_refl _) (.cells #[.int .i64 0, .int .i64 0, .int .i64 0, .int .i64 0] 72 (0, 0)))).below (Below.refl _ _).drew
                  have hK0d : Keeps (fun i => i = wb) V2 V2.drew := (Keeps.refl _ _).drew
                  have hK0z : Keeps (fun i => i = wb) V2 (V2.alloc (.cells #[.int .i64 0, .int .i64 0, .int .i64 0, .int .i64 0] 72 (0, 0))).drew := ((Keeps.refl _ _).alloc _).drew
                  have HCS3 := Lib.hid (show V2.drew.cell? ⟨w3.heap.size, 3, none⟩ = some (.int .i64 q3) from s1)
                  have HKE3 := Lib.hid (show ∀ w', Keeps (fun i => i = wb) V2 w' → w'.cell? ⟨w3.heap.size, 3, none⟩ = some (.int .i64 q3) from fun w' hk => (hk.cell (p := ⟨w3.heap.size, 3, none⟩) (lt_of_block HQW2.out) (by simp only; omega)).trans s1)
                  have HKD := Lib.hid (show ∀ v, Keeps (fun i => i = wb) V2.drew v → Keeps (fun i => i = wb) V2 v from fun v hk => hK0d.trans hk fun _ _ e => e)
                  have HKZ := Lib.hid (show ∀ v, Keeps (fun i => i = wb) (V2.alloc (.cells #[.int .i64 0, .int .i64 0, .int .i64 0, .int .i64 0] 72 (0, 0))).drew v → Keeps (fun i => i = wb) V2 v from fun v hk => hK0z.trans hk fun _ _ e => e)
                  have HNZ := Lib.hid (show ∀ v, Keeps (fun i => i = wb) (V2.alloc (.cells #[.int .i64 0, .int .i64 0, .int .i64 0, .int .i64 0] 72 (0, 0))).drew v → v.heap[V2.heap.size]? = some (.cells #[.int .i64 0, .int .i64 0, .int .i64 0, .int .i64 0] 72 (0, 0)) from fun v hk => (hk.block V2.heap.size (by show V2.heap.size < (V2.alloc _).heap.size; simp) (by have := HPL2.out.st.hand.lt; omega)).trans (blk_last V2 _ rfl))
                  have HPD := Lib.hid hPd
                  have HPZ := Lib.hid hPz
                  have HKd0 := Lib.hid hK0d
                  have HKz0 := Lib.hid hK0z
                  have HWl3 := Lib.hid (show P < V2.heap.size from lt_of_block HPW2.out)
                  have HRE3 := Lib.hid hre3
                  clear hkk3 hre3 hPd hPz hK0d hK0z
                  go_upto_region 15 with fail
                  go_cut [14] from 49 to 55 (fun s14 wx => ∃ N, s14 = .pointer (some ⟨N, 0, none⟩) ∧ Aside (P < N ∧ PSt b t S1 F1 wb mb b1 wx ∧ Keeps (fun i => i = wb) V2 wx ∧ wx.heap[N]? = some (.cells #[.int .i64 a3_0, .int .i64 a3_1, .int .i64 a3_2, .int .i64 a3_3] 72 (0, 0))))
                  case first =>
                    clear s1
                    go_region_held3 (fun w' => w'.cell? ⟨w3.heap.size, 3, none⟩ = some (.int .i64 q3)) (first | exact HCS3.out | exact HKE3.out _ HKz0.out | exact HKE3.out _ (HKD.out _ (by assumption)) | exact HKE3.out _ (HKZ.out _ (by assumption)) | (refine HKE3.out _ ?_; repeat (first | exact HKD.out _ (by assumption) | exact HKZ.out _ (by assumption) | refine Keeps.setCell ?_ (fun hp => absurd hp (Nat.lt_irrefl _)) _ | refine Keeps.alloc ?_ _))) ((go_at_call 28; first | (with_reducible refine (HKK3.out _ HPD.out).mono ?_; rintro e v3 ⟨rfl, hp, hkp⟩) | (with_reducible refine (HKK3.out _ HPZ.out).mono ?_; rintro e v3 ⟨rfl, hp, hkp⟩; have k0 := Joins.cell_of_block (HNZ.out _ hkp) 0; have k1 := Joins.cell_of_block (HNZ.out _ hkp) 1; have k2 := Joins.cell_of_block (HNZ.out _ hkp) 2; have k3 := Joins.cell_of_block (HNZ.out _ hkp) 3; have kf := fun j => Joins.unfrozen_of_block (HNZ.out _ hkp) j; simp at k0 k1 k2 k3)))
                    · have HM := Lib.hid (show P < v3.heap.size ∧ PSt b t S1 F1 wb mb b1 (v3.alloc (.cells #[.int .i64 a3_0, .int .i64 a3_1, .int .i64 a3_2, .int .i64 a3_3] 72 (0, 0))) ∧ Keeps (fun i => i = wb) V2 (v3.alloc (.cells #[.int .i64 a3_0, .int .i64 a3_1, .int .i64 a3_2, .int .i64 a3_3] 72 (0, 0))) ∧ (v3.alloc (.cells #[.int .i64 a3_0, .int .i64 a3_1, .int .i64 a3_2, .int .i64 a3_3] 72 (0, 0))).heap[v3.heap.size]? = some (.cells #[.int .i64 a3_0, .int .i64 a3_1, .int .i64 a3_2, .int .i64 a3_3] 72 (0, 0)) from ⟨by have := (HKD.out _ hkp).size; have := HWl3.out; omega, hp.below ((Below.refl _ _).alloc (Nat.le_refl _) _), (HKD.out _ hkp).alloc _, blk_last v3 _ rfl⟩)
                      clear hp hkp
                      first | go_meet | (go_wp2_with fail; go_meet)
                      exact ⟨_, rfl, HM.out⟩
                    · have HM := Lib.hid (relK_four (mb := mb) (b := b) (t := t) (S := S1) (F := F1) (bad := b1) (B := P) HWl3.out hp (HKZ.out _ hkp) (HNZ.out _ hkp) HPNW.out a3_0 a3_1 a3_2 a3_3)
                      clear hp hkp
                      first | go_meet | (go_wp2_with fail; go_meet)
                      exact ⟨_, rfl, HM.out⟩
                  case rest =>
                  obtain ⟨N3, rfl, hcr⟩ := hcut
                  obtain ⟨hNl, hp, hkp, hrZ⟩ := hcr.out
                  obtain ⟨Z3, hZ⟩ : ∃ Z, Z = wc := ⟨_, rfl⟩
                  rw [← hZ] at hp hkp hrZ
                  have hbZ : Below Z3.heap.size Z3 Z3 := Below.refl _ _
                  have hsv : V2.heap.size ≤ Z3.heap.size := hkp.size
                  have hqZ := (hkp.block w3.heap.size (lt_of_block HQW2.out) (by omega)).trans HQW2.out
                  have hpZ := (hkp.block (P) (lt_of_block HPW2.out) (by omega)).trans HPW2.out
                  obtain ⟨Y3, hY⟩ : ∃ X, X = Z3.setCell ⟨P, 3, none⟩ (.int .i64 a3_0) := ⟨_, rfl⟩
                  have hPY : LPeel U w F b t S lv0 T0 wb mb n id S1 b1 F1 Y3 := by
                    have h1 := HPL2.out.more hp hkp (fun i e => by rw [e]; exact HWB.out.1)
                    have hk : Keeps (fun i => i = P) Z3 Y3 := by rw [hY]; exact Keeps.setCell (p := ⟨P, 3, none⟩) (Keeps.refl (fun i => i = P) _) (fun _ => rfl) _
                    refine h1.more (h1.st.keep hk (fun i e => ⟨fun hF => by have := HFW.out i hF; omega, by omega, by omega⟩)) hk (fun i e => by omega)
                  have hqY : Y3.heap[w3.heap.size]? = some (.cells #[.int .i64 q0, .int .i64 q1, .int .i64 q2, .int .i64 q3] 72 (0, 0)) := by rw [hY, Below.heap_setCell _ _ _ _ (by show w3.heap.size ≠ P; omega)]; exact hqZ
                  have hpY : Y3.heap[P]? = some (.cells #[.int .i64 a0_3, .int .i64 a1_2, .int .i64 a2_1, .int .i64 a3_0] 72 (0, 0)) := by rw [hY]; exact Joins.block_setCell (i := 3) hpZ _
                  have hrY : Y3.heap[N3]? = some (.cells #[.int .i64 a3_0, .int .i64 a3_1, .int .i64 a3_2, .int .i64 a3_3] 72 (0, 0)) := by rw [hY, Below.heap_setCell _ _ _ _ (by show N3 ≠ P; omega)]; exact hrZ
                  have r0 := Joins.cell_of_block hrZ 0
                  simp at r0
                  have p0 := Joins.cell_of_block hpZ 3
                  simp at p0
                  have p1 := Joins.unfrozen_of_block hpZ 3
                  have hlt1 : N3 < Z3.heap.size := lt_of_block hrZ
                  have HPY3 := Lib.hid hPY
                  have HQY3 := Lib.hid hqY
                  have HPPY3 := Lib.hid hpY
                  have HRY3 := Lib.hid hrY
                  have HZ3 := Lib.hid hZ
                  have HY3 := Lib.hid hY
                  have HVK3 := Lib.hid (show P < N3 from hNl)
                  clear hp hkp hZ hbZ hrZ hsv hqZ hpZ hY hPY hqY hpY hrY HCS3 HKE3 HKK3 HKD HKZ HNZ HPD HPZ HKd0 HKz0 hcr hNl s1
                  rw [← HZ3.out]
                  go_upto_region 16 with fail
                  go_upto_region 17 with fail
                  rw [← HY3.out]
                  clear r0 p0 p1
                  obtain ⟨fb3, hfb⟩ : ∃ x : Bool, x = (fb2 && rimB (eb 2) 1 4) := ⟨_, rfl⟩
                  have HFB3 := Lib.hid hfb
                  try rw [← hfb]
                  clear hfb
                  go_wp2_with fail
                  go_loopw [12, 15, 62] (fun fv _ jv ws => ∃ j : Nat, jv = .int .i64 j ∧ j ≤ 4 ∧ fv = .bool (fb3 && rimB (eb 3) 0 j) ∧ Aside (PSt b t S1 F1 wb mb b1 ws) ∧ Aside (Keeps (fun i => i = wb ∨ i = mb) Y3 ws)) (fun _ _ jv _ => 4 - (intOf jv).toNat)
                  case atStart => exact ⟨0, rfl, by omega, by simp [rimB], HPY3.out.st, Keeps.refl _ _⟩
                  case round =>
                    obtain ⟨j, rfl, hj, rfl, HPS, HKP⟩ := hrel
                    by_cases hj4 : j < 4
                    · have u1 : decide ((j : Int) < 4) = true := decide_eq_true (by omega)
                      have u2 : decide (j < 4) = true := decide_eq_true hj4
                      obtain ⟨fj, hfj⟩ : ∃ x, x = (fb3 && rimB (eb 3) 0 j) := ⟨_, rfl⟩
                      have hnx : (fb3 && rimB (eb 3) 0 (j + 1)) = (fj && (decide (j = 0) || eb 3 j)) := by rw [hfj, rimB, Bool.and_assoc]
                      have HNX := Lib.hid hnx
                      rw [← hfj]
                      clear hnx hfj
                      cases fj with
                      | false =>
                        go_wp2_with fail
                        exact ⟨⟨j + 1, by go_num, hj4, by rw [HNX.out]; rfl, HPS, HKP⟩, by simp [intOf]; omega⟩
                      | true =>
                        by_cases hjm : j = 0
                        · have v1 : ((j : Int) == 0) = true := by simp; omega
                          have v2 : (j == 0) = true := by simp; omega
                          have v3 : decide (j = 0) = true := decide_eq_true hjm
                          go_wp2_with fail
                          exact ⟨⟨j + 1, by go_num, hj4, by rw [HNX.out, v3]; rfl, HPS, HKP⟩, by simp [intOf]; omega⟩
                        · have v1 : ((j : Int) == 0) = false := by simp; omega
                          have v2 : (j == 0) = false := by simp; omega
                          have v3 : decide (j = 0) = false := decide_eq_false hjm
                          have hrw := (HKP.out.block N3 (lt_of_block HRY3.out) (by have := HVK3.out; omega)).trans HRY3.out
                          have hrc : wr.cell? ⟨N3, j, none⟩ = some (.int .i64 (qAt' (r 3) j)) := by
                            rw [Joins.cell_of_block hrw, ← HRE3.out]
                            rcases (show j = 0 ∨ j = 1 ∨ j = 2 ∨ j = 3 by omega) with rfl | rfl | rfl | rfl <;> rfl
                          have HEM := Lib.hid (HR.out.empty 3 j (by omega) hj4 wr HPS.out)
                          obtain ⟨ej, hej⟩ : ∃ x, x = eb 3 j := ⟨_, rfl⟩
                          rw [← hej] at HEM HNX
                          clear hrw hej hjm
                          go_wp2_with fail
                          with_reducible refine HEM.out.mono ?_
                          rintro e w5 ⟨rfl, hp5, hk5⟩
                          have HP5 : Aside (PSt b t S1 F1 wb mb b1 w5) := hp5
                          have HK5 : Aside (Keeps (fun i => i = wb ∨ i = mb) Y3 w5) := HKP.out.trans hk5 (fun _ _ e => e)
                          clear hp5 hk5
                          go_wp2_with fail
                          refine ⟨⟨j + 1, by go_num, hj4, ?_, HP5, HK5⟩, by simp [intOf]; omega⟩
                          rw [HNX.out, v3]; simp
                    · have hj4' : j = 4 := by omega
                      subst hj4'
                      have HQW3 := Lib.hid ((HKP.out.block w3.heap.size (lt_of_block HQY3.out) (by omega)).trans HQY3.out)
                      have HPW3 := Lib.hid ((HKP.out.block (P) (lt_of_block HPPY3.out) (by omega)).trans HPPY3.out)
                      have HPL3 := Lib.hid (HPY3.out.more HPS.out HKP.out (fun i e => by have := HWB.out; omega))
                      obtain ⟨V3, hV⟩ : ∃ V, V = wr := ⟨_, rfl⟩
                      subst hV
                      clear hj hj4 HPS HKP
                      rw [show ((4 : Nat) : Int) = (4 : Int) from rfl]
                      go_wp2_with fail
                      rw [rounds_succ]
                      go_upto_region 23 with fail
                      obtain ⟨fall, hfall⟩ : ∃ x : Bool, x = (fb3 && rimB (eb 3) 0 4) := ⟨_, rfl⟩
                      have HFA := Lib.hid hfall
                      rw [← hfall]
                      clear hfall
                      have HDN := Lib.hid (done_any wb b t b1 54 (some (.map (some mb))) id V3 HPL3.out.st.hand)
                      have hc2 := HPL3.out.st.hand.c2
                      have HFT := Lib.hid (show b1 = 0 → fitsT T1 = fall from fun e => by
                        rw [fits_rim (HT1.out e).1, HFA.out, HFB3.out, HFB2.out, HFB1.out, HFB0.out]
                        have he : ∀ k, k < 4 → ∀ m, rimB (eb k) m 4 = rimB (fun j => emB (kidP j (kidP k T1))) m 4 := fun k hk m => by
                          have := fun j (hj : j < 4) => (HR.out.den e k j hk hj).2
                          simp [rimB, this 0 (by omega), this 1 (by omega), this 2 (by omega), this 3 (by omega)]
                        rw [he 0 (by omega), he 1 (by omega), he 2 (by omega), he 3 (by omega)]
                        simp)
                      cases fall with
                      | false =>
                        have HLX := Lib.hid (show (b1 = 0 → Den S1.L t (peelL lv0 T0) (peelT lv0 T0) id) from fun e => by
                          obtain ⟨g0, g1, g2, g3⟩ := HT1.out e
                          have hs := peel_stops (n := n - 3) (HFT.out e)
                          have hn3 : n - 3 + 3 = n := by omega
                          rw [hn3] at hs
                          rw [← g2, ← g3.1, hs.1, hs.2]
                          exact g1)
                        go_wp2_with fail
                        with_reducible refine HDN.out.mono ?_
                        rintro e w9 ⟨rfl, h9⟩
                        have HDL := Lib.hid (show Gets U w F b t S lv0 (peelL lv0 T0) (peelT lv0 T0) (.returned (.tuple #[.int .i64 (if b1 = 0 then id else 0), .int .i64 b1])) w9 from by
                          refine ⟨_, b1, S1, F1, rfl, ?_, HPL3.out.res.more (Nat.sub_le _ _), fun e => by rw [if_pos e]; exact HLX.out e, fun e => by rw [if_neg e], HPL3.out.st.ar.below h9, HPL3.out.far, HPL3.out.keep.below h9⟩
                          split
                          · exact HPL3.out.i64
                          · unfold I64; omega)
                        obtain ⟨r2, hr2⟩ : ∃ r2, r2 = if b1 = 0 then id else 0 := ⟨_, rfl⟩
                        rw [← hr2] at HDL
                        rw [← hr2]
                        clear hr2 h9
                        go_wp2_with fail
                        go_ret2
                        exact HDL.out
                      | true =>
                        by_cases hbad : b1 = 0
                        · obtain ⟨g0, g1, g2, g3⟩ := HT1.out hbad
                          subst hbad
                          have hdd := fun k j hk hj => (HR.out.den rfl k j hk hj).1
                          have hii := HR.out.i64
                          have hinn := inner_kids (n := m0 + 1) g0
                          have hf := HFT.out rfl
                          have hpf := peel_fits (n := m0) hf
                          have hn := HN.out
                          have hd3 := hdd 0 3 (by omega) (by omega)
                          have hd2 := hdd 1 2 (by omega) (by omega)
                          have hd1 := hdd 2 1 (by omega) (by omega)
                          have hd0 := hdd 3 0 (by omega) (by omega)
                          have hi3 := hii 0 3 (by omega) (by omega)
                          have hi2 := hii 1 2 (by omega) (by omega)
                          have hi1 := hii 2 1 (by omega) (by omega)
                          have hi0 := hii 3 0 (by omega) (by omega)
                          rw [← HRE0.out] at hd3 hi3
                          rw [← HRE1.out] at hd2 hi2
                          rw [← HRE2.out] at hd1 hi1
                          rw [← HRE3.out] at hd0 hi0
                          have hb3 := HPL3.out.st.below (Below.refl _ V3).drew
                          have hj := hjoin_tree (U := U) wb b t 0 54 (some (.map (some mb))) S1 F1 (a0_3, a1_2, a2_1, a3_0) (m0 + 1) (kidP 3 (kidP 0 T1)) (kidP 2 (kidP 1 T1)) (kidP 1 (kidP 2 T1)) (kidP 0 (kidP 3 T1)) V3.drew hb3.ar HPL3.out.res.wf hb3.hand hb3.d1.1 ⟨hi3, hi2, hi1, hi0⟩ ht (by omega) (fun _ => ⟨hd3, hd2, hd1, hd0⟩) (fun _ => by rw [← hinn]; exact HU.out _ (g3.2 _ (by rw [hn]; exact ⟨hf, .inl rfl⟩)))
                          rw [← hinn] at hj
                          unfold fourV at hj
                          simp only at hj
                          have hj2 : Calls Try.prog 30 #[.pointer (some ⟨wb, 0, none⟩), .agg #[.int .i64 a0_3, .int .i64 a1_2, .int .i64 a2_1, .int .i64 a3_0]] V3.drew fun e w7 => ∃ (S2 : ArS) (b2 : Int) (F2 : Nat → Prop) (r2 : Int), e = .returned (.int .i64 r2) ∧ I64 r2 ∧ Res U t S1 S2 0 b2 1 ∧ (b2 = 0 → Den S2.L t (m0 + 2) (innerT T1) r2) ∧ IsAr b S2 w7 F2 ∧ HandAt wb b t b2 54 (some (.map (some mb))) w7 ∧ (∀ i, F2 i → F1 i ∨ V3.drew.heap.size ≤ i) ∧ Keeps (fun i => F1 i ∨ i = wb) V3.drew w7 := hj.mono fun e w7 h => by
                            obtain ⟨S2, b2, v, F2, rfl, ⟨⟨r2, rfl, hr, hres, hden⟩, _⟩, g1, g2, g3, g4⟩ := h
                            exact ⟨S2, b2, F2, r2, rfl, hr, hres, hden, g1, g2, g3, g4⟩
                          have HJ := Lib.hid hj2
                          have p0 := Joins.cell_of_block HPW3.out 0
                          have p1 := Joins.cell_of_block HPW3.out 1
                          have p2 := Joins.cell_of_block HPW3.out 2
                          have p3 := Joins.cell_of_block HPW3.out 3
                          simp at p0 p1 p2 p3
                          have HCS := Lib.hid (show V3.drew.cell? ⟨P, 0, none⟩ = some (.int .i64 a0_3) ∧ V3.drew.cell? ⟨P, 1, none⟩ = some (.int .i64 a1_2) ∧ V3.drew.cell? ⟨P, 2, none⟩ = some (.int .i64 a2_1) ∧ V3.drew.cell? ⟨P, 3, none⟩ = some (.int .i64 a3_0) from ⟨p0, p1, p2, p3⟩)
                          have hPV : P < V3.drew.heap.size := lt_of_block HPW3.out
                          have hPF : ¬ (F1 P ∨ P = wb) := fun e => by
                            rcases e with e | e
                            · have := HFW.out P e; omega
                            · omega
                          have HKE := Lib.hid (show ∀ w', Keeps (fun i => F1 i ∨ i = wb) V3.drew w' → w'.cell? ⟨P, 0, none⟩ = some (.int .i64 a0_3) ∧ w'.cell? ⟨P, 1, none⟩ = some (.int .i64 a1_2) ∧ w'.cell? ⟨P, 2, none⟩ = some (.int .i64 a2_1) ∧ w'.cell? ⟨P, 3, none⟩ = some (.int .i64 a3_0) from fun w' hk => ⟨(hk.cell (p := ⟨P, 0, none⟩) hPV hPF).trans p0, (hk.cell (p := ⟨P, 1, none⟩) hPV hPF).trans p1, (hk.cell (p := ⟨P, 2, none⟩) hPV hPF).trans p2, (hk.cell (p := ⟨P, 3, none⟩) hPV hPF).trans p3⟩)
                          have HPF := Lib.hid hpf
                          have HFIT := Lib.hid hf
                          have HG := Lib.hid (show peelT n T1 = peelT lv0 T0 ∧ PeelEq n T1 lv0 T0 from ⟨g2, g3⟩)
                          obtain ⟨n1, hn1⟩ : ∃ n1 : Nat, n1 = m0 + 2 := ⟨_, rfl⟩
                          have HN1 := Lib.hid hn1
                          have hnI : (n : Int) - 1 = (n1 : Int) := by omega
                          have HNB := Lib.hid (show n1 < n ∧ 2 < n by omega)
                          clear g0 g1 g2 g3 hdd hii hinn hf hpf hn hd3 hd2 hd1 hd0 hi3 hi2 hi1 hi0 hb3 hj hj2 hPV hPF hn1
                          go_upto_region 24 with fail
                          clear p0 p1 p2 p3 hc2
                          go_region_held3 (fun w' => w'.cell? ⟨P, 0, none⟩ = some (.int .i64 a0_3) ∧ w'.cell? ⟨P, 1, none⟩ = some (.int .i64 a1_2) ∧ w'.cell? ⟨P, 2, none⟩ = some (.int .i64 a2_1) ∧ w'.cell? ⟨P, 3, none⟩ = some (.int .i64 a3_0)) (first | exact HCS.out | exact HKE.out _ (by assumption)) ((go_at_call 30; with_reducible refine HJ.out.mono ?_; rintro e w7 ⟨S2, b2, F2, r2, rfl, hr, hres, hden, g1, g2, g3, g4⟩))
                          have HLJ : Aside (LPeel U w F b t S lv0 T0 wb mb n1 r2 S2 b2 F2 w7) := by
                            have hl := HPL3.out
                            rw [HN.out] at hl
                            show LPeel U w F b t S lv0 T0 wb mb n1 r2 S2 b2 F2 w7
                            rw [HN1.out]
                            refine hl.joined g1 g2 g3 ((Keeps.refl _ V3).drew.trans g4 fun _ _ e => e) hres hr fun e => ⟨innerT T1, hden e, ?_, ?_⟩
                            · rw [← HPF.out.1, ← HN.out]; exact HG.out.1
                            · exact ⟨by rw [← HPF.out.2, ← HN.out]; exact HG.out.2.1, fun X hX => HG.out.2.2 X (by rw [HN.out]; exact ⟨HFIT.out, .inr hX⟩)⟩
                          clear hr hres hden g1 g2 g3 g4
                          go_wp2_with fail
                          have HM := HNB.out
                          go_roundw
                          case rel =>
                            exact ⟨n1, r2, S2, b2, F2, rfl, by go_num, HLJ⟩
                          case measure => simp [intOf]; omega
                        · have v1 : (b1 == 0) = false := by simpa using hbad
                          have v2 : (b1 != 0) = true := by simpa using hbad
                          have HLX := Lib.hid (show (b1 = 0 → Den S1.L t (peelL lv0 T0) (peelT lv0 T0) id) from fun e => absurd e hbad)
                          clear hbad
                          go_wp2_with fail
                          with_reducible refine HDN.out.mono ?_
                          rintro e w9 ⟨rfl, h9⟩
                          have HDL := Lib.hid (show Gets U w F b t S lv0 (peelL lv0 T0) (peelT lv0 T0) (.returned (.tuple #[.int .i64 (if b1 = 0 then id else 0), .int .i64 b1])) w9 from by
                            refine ⟨_, b1, S1, F1, rfl, ?_, HPL3.out.res.more (Nat.sub_le _ _), fun e => by rw [if_pos e]; exact HLX.out e, fun e => by rw [if_neg e], HPL3.out.st.ar.below h9, HPL3.out.far, HPL3.out.keep.below h9⟩
                            split
                            · exact HPL3.out.i64
                            · unfold I64; omega)
                          obtain ⟨r2, hr2⟩ : ∃ r2, r2 = if b1 = 0 then id else 0 := ⟨_, rfl⟩
                          rw [← hr2] at HDL
                          rw [← hr2]
                          clear hr2 h9
                          go_wp2_with fail
                          go_ret2
                          exact HDL.out
end Go.Proofs.Ytabhpbkkjijfjaa
