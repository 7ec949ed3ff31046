/-
  quad's edge: its closure.
-/
import Derived.Test.YtdmamecfmfhlmaaZQuadReadsQBoxMath
namespace Go.Proofs.Ytdmamecfmfhlmaa
set_option maxRecDepth 100000
open Go.RowKit

def qAt (q : Four) : Nat → Int
  | 0 => q.1
  | 1 => q.2.1
  | 2 => q.2.2.1
  | _ => q.2.2.2
structure MemoS (L : List (Option Ent)) (t s : Nat) (g : Int → Option Value) : Prop where
  all : ∀ id v, g id = some v → ∃ n T, Den L t n T id ∧ v = .int .i64 (edgeT n s T)
/-- A walker, what it knows, and what edge knows of a side. -/
structure GSt (b t : Nat) (S : ArS) (F : Nat → Prop) (wb mb mm nn : Nat) (f : Int → Option Value) (nm : Nat) (g : Int → Option Value) (s : Nat) (w : World) : Prop where
  st : WSt b t S F wb mb nn f w
  mp : MapOf intV I64 w mm nm g
  mo : MemoS S.L t s g
  dm : ¬ F mm ∧ mm ≠ wb ∧ mm ≠ mb
/-- What look catches. -/
structure LSt (B : Nat) (F : Nat → Prop) (wb mb mm : Nat) (q : Four) (lv s c5 c7 c8 c9 c15 c16 c17 : Nat) (o : Option Nat) (w : World) : Prop where
  k5 : w.cell? ⟨c5, 0, none⟩ = some (.pointer (some ⟨wb, 0, none⟩))
  k7 : w.cell? ⟨c7, 0, none⟩ = some (.int .i64 lv)
  k8 : w.cell? ⟨c8, 0, none⟩ = some (.int .i64 s)
  k9 : w.cell? ⟨c9, 0, none⟩ = some (.map (some mm))
  k15 : w.heap[c15]? = some (.cells #[.int .i64 q.1, .int .i64 q.2.1, .int .i64 q.2.2.1, .int .i64 q.2.2.2] 61 (0, 0))
  k16 : w.heap[c16]? = some (.cells #[.int .i64 ((o.getD 0 : Nat) : Int)] 3 (0, 0))
  k17 : w.heap[c17]? = some (.cells #[.bool o.isSome] 4 (0, 0))
  ord : B ≤ c5 ∧ c5 < c7 ∧ c7 < c8 ∧ c8 < c9 ∧ c9 < c15 ∧ c15 < c16 ∧ c16 < c17
  low : wb < B ∧ mb < B ∧ mm < B
  out : ∀ i, F i → i < B
section
variable {b t : Nat} {S : ArS} {F G : Nat → Prop} {wb mb mm nn nm s B lv c5 c7 c8 c9 c15 c16 c17 : Nat} {q : Four} {f g : Int → Option Value} {o : Option Nat} {w w' : World}
theorem LSt.keep (h : LSt B F wb mb mm q lv s c5 c7 c8 c9 c15 c16 c17 o w) (hk : Keeps G w w') (hg : ∀ i, G i → i < B) : LSt B F wb mb mm q lv s c5 c7 c8 c9 c15 c16 c17 o w' := by
  have hc : ∀ c v, B ≤ c → w.cell? ⟨c, 0, none⟩ = some v → w'.cell? ⟨c, 0, none⟩ = some v := fun c v hB hv => (hk.cell (p := ⟨c, 0, none⟩) (World.block_lt_of_cell? w _ hv) (fun e => by have := hg _ e; simp only at this; omega)).trans hv
  have hb : ∀ c v, B ≤ c → w.heap[c]? = some v → w'.heap[c]? = some v := fun c v hB hv => (hk.block c (lt_of_block hv) (fun e => by have := hg _ e; omega)).trans hv
  have := h.ord
  exact { h with
    k5 := hc _ _ (by omega) h.k5
    k7 := hc _ _ (by omega) h.k7
    k8 := hc _ _ (by omega) h.k8
    k9 := hc _ _ (by omega) h.k9
    k15 := hb _ _ (by omega) h.k15
    k16 := hb _ _ (by omega) h.k16
    k17 := hb _ _ (by omega) h.k17 }
theorem LSt.below (h : LSt B F wb mb mm q lv s c5 c7 c8 c9 c15 c16 c17 o w) (hb : Below w.heap.size w w') : LSt B F wb mb mm q lv s c5 c7 c8 c9 c15 c16 c17 o w' := h.keep (Keeps.of_below (F := fun _ => False) hb) (fun _ e => e.elim)
theorem LSt.set (h : LSt B F wb mb mm q lv s c5 c7 c8 c9 c15 c16 c17 o w) (m : Nat) : LSt B F wb mb mm q lv s c5 c7 c8 c9 c15 c16 c17 (some m) ((w.setCell ⟨c16, 0, none⟩ (.int .i64 m)).setCell ⟨c17, 0, none⟩ (.bool true)) := by
  have := h.ord
  have hc : ∀ (c : Nat) (v : Value), c < c16 → w.cell? ⟨c, 0, none⟩ = some v → ((w.setCell ⟨c16, 0, none⟩ (.int .i64 m)).setCell ⟨c17, 0, none⟩ (.bool true)).cell? ⟨c, 0, none⟩ = some v := fun c v h1 hv => by
    rw [← hv]
    exact World.cell?_of_block (by rw [Below.heap_setCell _ _ _ _ (by show c ≠ c17; omega), Below.heap_setCell _ _ _ _ (by show c ≠ c16; omega)])
  exact { h with
    k5 := hc _ _ (by omega) h.k5
    k7 := hc _ _ (by omega) h.k7
    k8 := hc _ _ (by omega) h.k8
    k9 := hc _ _ (by omega) h.k9
    k15 := by rw [Below.heap_setCell _ _ _ _ (by show c15 ≠ c17; omega), Below.heap_setCell _ _ _ _ (by show c15 ≠ c16; omega)]; exact h.k15
    k16 := by rw [Below.heap_setCell _ _ _ _ (by show c16 ≠ c17; omega)]; exact Joins.block_setCell h.k16 _
    k17 := by rw [Joins.block_setCell (v := .bool true) ((Below.heap_setCell _ _ _ _ (by show c17 ≠ c16; omega)).trans h.k17)]; rfl }
theorem LSt.kid (h : LSt B F wb mb mm q lv s c5 c7 c8 c9 c15 c16 c17 o w) {k : Nat} (hk : k < 4) : w.cell? ⟨c15, k, none⟩ = some (.int .i64 (qAt q k)) := by
  rw [Joins.cell_of_block h.k15]
  rcases (show k = 0 ∨ k = 1 ∨ k = 2 ∨ k = 3 by omega) with rfl | rfl | rfl | rfl <;> rfl
theorem GSt.keep (h : GSt b t S F wb mb mm nn f nm g s w) (hk : Keeps G w w') (hg : ∀ i, G i → ¬ F i ∧ i ≠ wb ∧ i ≠ mb ∧ i ≠ mm) : GSt b t S F wb mb mm nn f nm g s w' :=
  { h with
    st := h.st.keep hk (fun i e => ⟨(hg i e).1, (hg i e).2.1, (hg i e).2.2.1⟩)
    mp := h.mp.keep (hk.block _ h.mp.lt (fun e => (hg _ e).2.2.2 rfl)) }
theorem GSt.below (h : GSt b t S F wb mb mm nn f nm g s w) (hb : Below w.heap.size w w') : GSt b t S F wb mb mm nn f nm g s w' := h.keep (Keeps.of_below (F := fun _ => False) hb) (fun _ e => e.elim)
theorem GSt.empty (h : GSt b t S F wb mb mm nn f nm g s w) {nn' : Nat} {f' : Int → Option Value} (hs : WSt b t S F wb mb nn' f' w') (hk : Keeps (fun i => i = wb ∨ i = mb) w w') : GSt b t S F wb mb mm nn' f' nm g s w' :=
  { h with
    st := hs
    mp := h.mp.keep (hk.block _ h.mp.lt (fun e => by rcases e with e | e; exact h.dm.2.1 e; exact h.dm.2.2 e)) }
end
/-- edge's contract, at one level. -/
def EdgeOk (n : Nat) : Prop := ∀ (b t : Nat) (S : ArS) (F : Nat → Prop) (wb mb mm nn : Nat) (f : Int → Option Value) (nm : Nat) (g : Int → Option Value) (s : Nat) (T : Tree) (id : Int) (w : World), s < 4 → GSt b t S F wb mb mm nn f nm g s w → t < 64 → Den S.L t n T id → emB T = false →
  Calls Try.prog 53 #[.pointer (some ⟨wb, 0, none⟩), .int .i64 id, .int .i64 n, .int .i64 s, .map (some mm)] w fun e w' => e = .returned (.int .i64 (edgeT n s T)) ∧ ∃ nn' f' nm' g', GSt b t S F wb mb mm nn' f' nm' g' s w' ∧ Keeps (fun i => i = wb ∨ i = mb ∨ i = mm) w w'
def LookOk (n : Nat) : Prop := ∀ (b t : Nat) (S : ArS) (F : Nat → Prop) (wb mb mm nn : Nat) (f : Int → Option Value) (nm : Nat) (g : Int → Option Value) (s : Nat) (T : Tree) (B : Nat) (q : Four) (c5 c7 c8 c9 c15 c16 c17 : Nat) (o : Option Nat) (k0 k1 add : Nat) (w : World), s < 4 → k0 < 4 → k1 < 4 → add ≤ 17592186044416 → GSt b t S F wb mb mm nn f nm g s w → LSt B F wb mb mm q (n + 1) s c5 c7 c8 c9 c15 c16 c17 o w → t < 64 → Full (n + 1) T → (∀ k, k < 4 → Den S.L t n (kidT k T) (qAt q k)) →
  Calls Try.prog 86 #[.agg #[.int .i64 k0, .int .i64 k1], .int .i64 add, .pointer (some ⟨c5, 0, none⟩), .pointer (some ⟨c15, 0, none⟩), .pointer (some ⟨c7, 0, none⟩), .pointer (some ⟨c8, 0, none⟩), .pointer (some ⟨c9, 0, none⟩), .pointer (some ⟨c17, 0, none⟩), .pointer (some ⟨c16, 0, none⟩)] w fun e w' => e = .returned (.tuple #[]) ∧ ∃ nn' f' nm' g', GSt b t S F wb mb mm nn' f' nm' g' s w' ∧ LSt B F wb mb mm q (n + 1) s c5 c7 c8 c9 c15 c16 c17 (lookT (edgeT n s) add (kidT k1 T) (lookT (edgeT n s) add (kidT k0 T) o)) w' ∧ Keeps (fun i => i = wb ∨ i = mb ∨ i = mm ∨ i = c16 ∨ i = c17) w w'
theorem look_skip {e : Tree → Nat} {add : Nat} {T : Tree} {o : Option Nat} (h : emB T = true) : lookT e add T o = o := by unfold lookT; rw [if_pos h]
theorem look_first {e : Tree → Nat} {add : Nat} {T : Tree} (h : emB T = false) : lookT e add T none = some (add + e T) := by unfold lookT; rw [h]; rfl
theorem look_less {e : Tree → Nat} {add m : Nat} {T : Tree} (h : emB T = false) (h1 : add + e T < m) : lookT e add T (some m) = some (add + e T) := by unfold lookT; rw [h]; simp [h1]
theorem look_more {e : Tree → Nat} {add m : Nat} {T : Tree} (h : emB T = false) (h1 : ¬ add + e T < m) : lookT e add T (some m) = some m := by unfold lookT; rw [h]; simp [h1]
set_option maxHeartbeats 8000000 in
set_option maxRecDepth 100000 in
theorem look_any (n : Nat) (hn : n + 1 ≤ 44) (IH : EdgeOk n) : LookOk n := by
  intro b t S F wb mb mm nn f nm g s T B q c5 c7 c8 c9 c15 c16 c17 o k0 k1 add w hs hk0 hk1 hadd h hl ht hfull hden
  have HIH := Lib.hid IH
  have HDEN := Lib.hid hden
  have HFULL := Lib.hid hfull
  have HEM := Lib.hid (wempty_any n)
  obtain ⟨X, hX⟩ : ∃ X, X = w.alloc (.cells #[.int .i64 k0, .int .i64 k1] 125 (0, 0)) := ⟨_, rfl⟩
  have hbX : Below w.heap.size w X := by rw [hX]; exact (Below.refl _ _).alloc (Nat.le_refl _) _
  have hpX : X.heap[w.heap.size]? = some (.cells #[.int .i64 k0, .int .i64 k1] 125 (0, 0)) := by rw [hX]; exact blk_last w _ rfl
  have p0 := Joins.cell_of_block hpX 0
  have p1 := Joins.cell_of_block hpX 1
  simp at p0 p1
  have HG := Lib.hid (h.below hbX)
  have HL := Lib.hid (hl.below hbX)
  have HK := Lib.hid (Keeps.of_below (F := fun i => i = wb ∨ i = mb ∨ i = mm ∨ i = c16 ∨ i = c17) hbX)
  have HX := Lib.hid hX
  have i0 : ∀ W, (Instr.index 125 (.agg #[.int .i64 k0, .int .i64 k1]) (.int .i64 0)).run Try.prog W = .ok (.int .i64 k0) W := fun W => by kernel_rfl
  have i1 : ∀ W, (Instr.index 125 (.agg #[.int .i64 k0, .int .i64 k1]) (.int .i64 1)).run Try.prog W = .ok (.int .i64 k1) W := fun W => by kernel_rfl
  obtain ⟨lv, hlv⟩ : ∃ lv, lv = n + 1 := ⟨_, rfl⟩
  have hlI : (lv : Int) - 1 = (n : Int) := by omega
  rw [← hlv] at HL ⊢
  have hnb : n ≤ 43 := by omega
  have hp0 : (0 : Int) ≤ (k0 : Int) := by omega
  have hp1 : (0 : Int) ≤ (k1 : Int) := by omega
  have hp2 : (k0 : Int) < 4 := by omega
  have hp3 : (k1 : Int) < 4 := by omega
  have hwn : IntKind.i64.wrap (n : Int) = (n : Int) := by rw [IntKind.wrap_i64]; omega
  have HLV := Lib.hid hlv
  clear h hl hden hfull IH hX hbX hpX hlv hn
  go_enter Try.func86, Try.ntmps86
  go_upto_region 1 with fail
  rw [← HX.out]
  go_wp2_with fail
  refine wp_loop_rounds 3 ?_
  cases o with
  | none =>
    rw [rounds_succ]
    have e1 := HL.out.k5
    have e2 := HL.out.kid hk0
    have HC := Lib.hid (HEM.out b t S F wb mb nn f (kidT k0 T) (qAt q k0) X.drew (HG.out.st.below (Below.refl _ X).drew) ht (HDEN.out k0 hk0))
    have HCS := Lib.hid (show X.drew.cell? ⟨c5, 0, none⟩ = some (.pointer (some ⟨wb, 0, none⟩)) ∧ X.drew.cell? ⟨c15, k0, none⟩ = some (.int .i64 (qAt q k0)) from ⟨e1, e2⟩)
    have HKK := Lib.hid (show ∀ w', Keeps (fun i => i = wb ∨ i = mb) X.drew w' → LSt B F wb mb mm q lv s c5 c7 c8 c9 c15 c16 c17 none w' from fun w' hk => (HL.out.below (Below.refl _ X).drew).keep hk (fun i e => by have := HL.out.low; rcases e with e | e <;> omega))
    have HKS := Lib.hid (show ∀ w', Keeps (fun i => i = wb ∨ i = mb) X.drew w' → w'.cell? ⟨c5, 0, none⟩ = some (.pointer (some ⟨wb, 0, none⟩)) ∧ w'.cell? ⟨c15, k0, none⟩ = some (.int .i64 (qAt q k0)) from fun w' hk => ⟨(HKK.out w' hk).k5, (HKK.out w' hk).kid hk0⟩)
    obtain ⟨eb, heb⟩ : ∃ eb, eb = emB (kidT k0 T) := ⟨_, rfl⟩
    rw [← heb] at HC
    have HEB0 := Lib.hid heb
    clear heb
    go_upto_region 4 with fail
    clear e1 e2
    go_region_held3 (fun w' => w'.cell? ⟨c5, 0, none⟩ = some (.pointer (some ⟨wb, 0, none⟩)) ∧ w'.cell? ⟨c15, k0, none⟩ = some (.int .i64 (qAt q k0))) (first | exact HCS.out | exact HKS.out _ (by assumption)) ((go_at_call 52; with_reducible refine HC.out.mono ?_; rintro e v0 ⟨rfl, nn0a, f0a, hst, hkp⟩))
    have HGA0 := Lib.hid ((HG.out.below (Below.refl _ X).drew).empty hst hkp)
    have HLA0 := Lib.hid (HKK.out v0 hkp)
    have HKA0 := Lib.hid ((HK.out.drew).trans (hkp.mono (G := fun i => i = wb ∨ i = mb ∨ i = mm ∨ i = c16 ∨ i = c17) fun i _ e => by rcases e with e | e; exact .inl e; exact .inr (.inl e)) (fun _ _ e => e))
    clear hst hkp HC HCS HKK HKS
    cases eb with
    | true =>
      have HSK0 := Lib.hid (show lookT (edgeT n s) add (kidT k0 T) none = none from look_skip HEB0.out.symm)
      go_wp2_with fail
      rw [rounds_succ]
      have e1 := HLA0.out.k5
      have e2 := HLA0.out.kid hk1
      have HC := Lib.hid (HEM.out b t S F wb mb nn0a f0a (kidT k1 T) (qAt q k1) v0.drew (HGA0.out.st.below (Below.refl _ v0).drew) ht (HDEN.out k1 hk1))
      have HCS := Lib.hid (show v0.drew.cell? ⟨c5, 0, none⟩ = some (.pointer (some ⟨wb, 0, none⟩)) ∧ v0.drew.cell? ⟨c15, k1, none⟩ = some (.int .i64 (qAt q k1)) from ⟨e1, e2⟩)
      have HKK := Lib.hid (show ∀ w', Keeps (fun i => i = wb ∨ i = mb) v0.drew w' → LSt B F wb mb mm q lv s c5 c7 c8 c9 c15 c16 c17 none w' from fun w' hk => (HLA0.out.below (Below.refl _ v0).drew).keep hk (fun i e => by have := HLA0.out.low; rcases e with e | e <;> omega))
      have HKS := Lib.hid (show ∀ w', Keeps (fun i => i = wb ∨ i = mb) v0.drew w' → w'.cell? ⟨c5, 0, none⟩ = some (.pointer (some ⟨wb, 0, none⟩)) ∧ w'.cell? ⟨c15, k1, none⟩ = some (.int .i64 (qAt q k1)) from fun w' hk => ⟨(HKK.out w' hk).k5, (HKK.out w' hk).kid hk1⟩)
      obtain ⟨eb, heb⟩ : ∃ eb, eb = emB (kidT k1 T) := ⟨_, rfl⟩
      rw [← heb] at HC
      have HEB1 := Lib.hid heb
      clear heb
      go_upto_region 4 with fail
      clear e1 e2
      go_region_held3 (fun w' => w'.cell? ⟨c5, 0, none⟩ = some (.pointer (some ⟨wb, 0, none⟩)) ∧ w'.cell? ⟨c15, k1, none⟩ = some (.int .i64 (qAt q k1))) (first | exact HCS.out | exact HKS.out _ (by assumption)) ((go_at_call 52; with_reducible refine HC.out.mono ?_; rintro e v1 ⟨rfl, nn1a, f1a, hst, hkp⟩))
      have HGA1 := Lib.hid ((HGA0.out.below (Below.refl _ v0).drew).empty hst hkp)
      have HLA1 := Lib.hid (HKK.out v1 hkp)
      have HKA1 := Lib.hid ((HKA0.out.drew).trans (hkp.mono (G := fun i => i = wb ∨ i = mb ∨ i = mm ∨ i = c16 ∨ i = c17) fun i _ e => by rcases e with e | e; exact .inl e; exact .inr (.inl e)) (fun _ _ e => e))
      clear hst hkp HC HCS HKK HKS
      cases eb with
      | true =>
        have HSK1 := Lib.hid (show lookT (edgeT n s) add (kidT k1 T) none = none from look_skip HEB1.out.symm)
        go_wp2_with fail
        rw [rounds_succ]
        go_wp2_with fail
        go_end0
        refine ⟨rfl, nn1a, f1a, nm, g, HGA1.out, ?_, HKA1.out⟩
        rw [HSK0.out, HSK1.out]
        exact HLA1.out
      | false =>
        obtain ⟨ev, hev⟩ : ∃ ev, ev = edgeT n s (kidT k1 T) := ⟨_, rfl⟩
        have hevb : ev ≤ 17592186044416 := by
          have h1 := edge_lt hs (full_kid HFULL.out k1) HEB1.out.symm
          rw [← hev] at h1
          have h2 : 2 ^ n ≤ 2 ^ 44 := Nat.pow_le_pow_right (by omega) (by omega)
          omega
        have HCE := HIH.out b t S F wb mb mm nn1a f1a nm g s (kidT k1 T) (qAt q k1) v1.drew hs (HGA1.out.below (Below.refl _ v1).drew) ht (HDEN.out k1 hk1) HEB1.out.symm
        rw [← hev] at HCE
        have HCE := Lib.hid HCE
        have HEV := Lib.hid hev
        have e1 := HLA1.out.k5
        have e2 := HLA1.out.kid hk1
        have e3 := HLA1.out.k7
        have e4 := HLA1.out.k8
        have e5 := HLA1.out.k9
        have HCS := Lib.hid (show v1.drew.cell? ⟨c5, 0, none⟩ = some (.pointer (some ⟨wb, 0, none⟩)) ∧ v1.drew.cell? ⟨c15, k1, none⟩ = some (.int .i64 (qAt q k1)) ∧ v1.drew.cell? ⟨c7, 0, none⟩ = some (.int .i64 lv) ∧ v1.drew.cell? ⟨c8, 0, none⟩ = some (.int .i64 s) ∧ v1.drew.cell? ⟨c9, 0, none⟩ = some (.map (some mm)) from ⟨e1, e2, e3, e4, e5⟩)
        have HKK := Lib.hid (show ∀ w', Keeps (fun i => i = wb ∨ i = mb ∨ i = mm) v1.drew w' → LSt B F wb mb mm q lv s c5 c7 c8 c9 c15 c16 c17 none w' from fun w' hk => (HLA1.out.below (Below.refl _ v1).drew).keep hk (fun i e => by have := HLA1.out.low; rcases e with e | e | e <;> omega))
        have HKS := Lib.hid (show ∀ w', Keeps (fun i => i = wb ∨ i = mb ∨ i = mm) v1.drew w' → w'.cell? ⟨c5, 0, none⟩ = some (.pointer (some ⟨wb, 0, none⟩)) ∧ w'.cell? ⟨c15, k1, none⟩ = some (.int .i64 (qAt q k1)) ∧ w'.cell? ⟨c7, 0, none⟩ = some (.int .i64 lv) ∧ w'.cell? ⟨c8, 0, none⟩ = some (.int .i64 s) ∧ w'.cell? ⟨c9, 0, none⟩ = some (.map (some mm)) from fun w' hk => ⟨(HKK.out w' hk).k5, (HKK.out w' hk).kid hk1, (HKK.out w' hk).k7, (HKK.out w' hk).k8, (HKK.out w' hk).k9⟩)
        clear e1 e2 e3 e4 e5 hev
        obtain ⟨sm1, hsm⟩ : ∃ sm, sm = add + ev := ⟨_, rfl⟩
        have hsI : (add : Int) + (ev : Int) = (sm1 : Int) := by omega
        have hws1 : IntKind.i64.wrap (sm1 : Int) = (sm1 : Int) := by rw [IntKind.wrap_i64]; omega
        have hwa1 : IntKind.i64.wrap ((add : Int) + (ev : Int)) = (sm1 : Int) := by rw [IntKind.wrap_i64]; omega
        have HSME1 := Lib.hid hsm
        clear hsm
        go_upto_region 5 with fail
        go_region_held3 (fun w' => w'.cell? ⟨c5, 0, none⟩ = some (.pointer (some ⟨wb, 0, none⟩)) ∧ w'.cell? ⟨c15, k1, none⟩ = some (.int .i64 (qAt q k1)) ∧ w'.cell? ⟨c7, 0, none⟩ = some (.int .i64 lv) ∧ w'.cell? ⟨c8, 0, none⟩ = some (.int .i64 s) ∧ w'.cell? ⟨c9, 0, none⟩ = some (.map (some mm))) (first | exact HCS.out | exact HKS.out _ (by assumption)) ((go_at_call 53; with_reducible refine HCE.out.mono ?_; rintro e u1 ⟨rfl, nn1b, f1b, nm1b, g1b, hst, hkp⟩))
        have HGB1 := Lib.hid hst
        have HLB1 := Lib.hid (HKK.out u1 hkp)
        have HKB1 := Lib.hid ((HKA1.out.drew).trans (hkp.mono (G := fun i => i = wb ∨ i = mb ∨ i = mm ∨ i = c16 ∨ i = c17) fun i _ e => by rcases e with e | e | e; exact .inl e; exact .inr (.inl e); exact .inr (.inr (.inl e))) (fun _ _ e => e))
        clear hst hkp HCE HCS HKK HKS
        have HSM1 := Lib.hid (show add + edgeT n s (kidT k1 T) = sm1 by rw [← HEV.out]; exact HSME1.out.symm)
        have r16 := Joins.cell_of_block HLB1.out.k16 0
        have r17 := Joins.cell_of_block HLB1.out.k17 0
        have z16 := Joins.unfrozen_of_block HLB1.out.k16 0
        have z17 := Joins.unfrozen_of_block HLB1.out.k17 0
        simp at r16 r17
        have hord := HLB1.out.ord
        have hne : ¬ c16 = c17 := by omega
        have hne2 : ¬ c17 = c16 := by omega
        have HGS1 := Lib.hid (show GSt b t S F wb mb mm nn1b f1b nm1b g1b s ((u1.setCell ⟨c16, 0, none⟩ (.int .i64 sm1)).setCell ⟨c17, 0, none⟩ (.bool true)) from HGB1.out.keep (G := fun i => i = c16 ∨ i = c17) (Keeps.setCell (p := ⟨c17, 0, none⟩) (Keeps.setCell (p := ⟨c16, 0, none⟩) (Keeps.refl (fun i => i = c16 ∨ i = c17) u1) (fun _ => .inl rfl) _) (fun _ => .inr rfl) _) (fun i e => by
          have := HLB1.out.low
          have ho := HLB1.out.out i
          exact ⟨fun hF => by have := ho hF; omega, by omega, by omega, by omega⟩))
        have HLS1 := Lib.hid (HLB1.out.set sm1)
        have HKT1 := Lib.hid (Keeps.setCell (p := ⟨c17, 0, none⟩) (Keeps.setCell (p := ⟨c16, 0, none⟩) HKB1.out (fun _ => .inr (.inr (.inr (.inl rfl)))) (.int .i64 sm1)) (fun _ => .inr (.inr (.inr (.inr rfl)))) (.bool true))
        obtain ⟨Y1, hY⟩ : ∃ Y, Y = (u1.setCell ⟨c16, 0, none⟩ (.int .i64 sm1)).setCell ⟨c17, 0, none⟩ (.bool true) := ⟨_, rfl⟩
        rw [← hY] at HGS1 HLS1 HKT1
        have HY1 := Lib.hid hY
        clear hord hY
        have HSK1 := Lib.hid (show lookT (edgeT n s) add (kidT k1 T) none = some sm1 from by rw [look_first HEB1.out.symm, HSM1.out])
        go_upto_region 8 with fail
        rw [← HY1.out]
        clear r16 r17 z16 z17
        go_wp2_with fail
        rw [rounds_succ]
        go_wp2_with fail
        go_end0
        refine ⟨rfl, nn1b, f1b, nm1b, g1b, HGS1.out, ?_, HKT1.out⟩
        rw [HSK0.out, HSK1.out]
        exact HLS1.out
    | false =>
      obtain ⟨ev, hev⟩ : ∃ ev, ev = edgeT n s (kidT k0 T) := ⟨_, rfl⟩
      have hevb : ev ≤ 17592186044416 := by
        have h1 := edge_lt hs (full_kid HFULL.out k0) HEB0.out.symm
        rw [← hev] at h1
        have h2 : 2 ^ n ≤ 2 ^ 44 := Nat.pow_le_pow_right (by omega) (by omega)
        omega
      have HCE := HIH.out b t S F wb mb mm nn0a f0a nm g s (kidT k0 T) (qAt q k0) v0.drew hs (HGA0.out.below (Below.refl _ v0).drew) ht (HDEN.out k0 hk0) HEB0.out.symm
      rw [← hev] at HCE
      have HCE := Lib.hid HCE
      have HEV := Lib.hid hev
      have e1 := HLA0.out.k5
      have e2 := HLA0.out.kid hk0
      have e3 := HLA0.out.k7
      have e4 := HLA0.out.k8
      have e5 := HLA0.out.k9
      have HCS := Lib.hid (show v0.drew.cell? ⟨c5, 0, none⟩ = some (.pointer (some ⟨wb, 0, none⟩)) ∧ v0.drew.cell? ⟨c15, k0, none⟩ = some (.int .i64 (qAt q k0)) ∧ v0.drew.cell? ⟨c7, 0, none⟩ = some (.int .i64 lv) ∧ v0.drew.cell? ⟨c8, 0, none⟩ = some (.int .i64 s) ∧ v0.drew.cell? ⟨c9, 0, none⟩ = some (.map (some mm)) from ⟨e1, e2, e3, e4, e5⟩)
      have HKK := Lib.hid (show ∀ w', Keeps (fun i => i = wb ∨ i = mb ∨ i = mm) v0.drew w' → LSt B F wb mb mm q lv s c5 c7 c8 c9 c15 c16 c17 none w' from fun w' hk => (HLA0.out.below (Below.refl _ v0).drew).keep hk (fun i e => by have := HLA0.out.low; rcases e with e | e | e <;> omega))
      have HKS := Lib.hid (show ∀ w', Keeps (fun i => i = wb ∨ i = mb ∨ i = mm) v0.drew w' → w'.cell? ⟨c5, 0, none⟩ = some (.pointer (some ⟨wb, 0, none⟩)) ∧ w'.cell? ⟨c15, k0, none⟩ = some (.int .i64 (qAt q k0)) ∧ w'.cell? ⟨c7, 0, none⟩ = some (.int .i64 lv) ∧ w'.cell? ⟨c8, 0, none⟩ = some (.int .i64 s) ∧ w'.cell? ⟨c9, 0, none⟩ = some (.map (some mm)) from fun w' hk => ⟨(HKK.out w' hk).k5, (HKK.out w' hk).kid hk0, (HKK.out w' hk).k7, (HKK.out w' hk).k8, (HKK.out w' hk).k9⟩)
      clear e1 e2 e3 e4 e5 hev
      obtain ⟨sm0, hsm⟩ : ∃ sm, sm = add + ev := ⟨_, rfl⟩
      have hsI : (add : Int) + (ev : Int) = (sm0 : Int) := by omega
      have hws0 : IntKind.i64.wrap (sm0 : Int) = (sm0 : Int) := by rw [IntKind.wrap_i64]; omega
      have hwa0 : IntKind.i64.wrap ((add : Int) + (ev : Int)) = (sm0 : Int) := by rw [IntKind.wrap_i64]; omega
      have HSME0 := Lib.hid hsm
      clear hsm
      go_upto_region 5 with fail
      go_region_held3 (fun w' => w'.cell? ⟨c5, 0, none⟩ = some (.pointer (some ⟨wb, 0, none⟩)) ∧ w'.cell? ⟨c15, k0, none⟩ = some (.int .i64 (qAt q k0)) ∧ w'.cell? ⟨c7, 0, none⟩ = some (.int .i64 lv) ∧ w'.cell? ⟨c8, 0, none⟩ = some (.int .i64 s) ∧ w'.cell? ⟨c9, 0, none⟩ = some (.map (some mm))) (first | exact HCS.out | exact HKS.out _ (by assumption)) ((go_at_call 53; with_reducible refine HCE.out.mono ?_; rintro e u0 ⟨rfl, nn0b, f0b, nm0b, g0b, hst, hkp⟩))
      have HGB0 := Lib.hid hst
      have HLB0 := Lib.hid (HKK.out u0 hkp)
      have HKB0 := Lib.hid ((HKA0.out.drew).trans (hkp.mono (G := fun i => i = wb ∨ i = mb ∨ i = mm ∨ i = c16 ∨ i = c17) fun i _ e => by rcases e with e | e | e; exact .inl e; exact .inr (.inl e); exact .inr (.inr (.inl e))) (fun _ _ e => e))
      clear hst hkp HCE HCS HKK HKS
      have HSM0 := Lib.hid (show add + edgeT n s (kidT k0 T) = sm0 by rw [← HEV.out]; exact HSME0.out.symm)
      have r16 := Joins.cell_of_block HLB0.out.k16 0
      have r17 := Joins.cell_of_block HLB0.out.k17 0
      have z16 := Joins.unfrozen_of_block HLB0.out.k16 0
      have z17 := Joins.unfrozen_of_block HLB0.out.k17 0
      simp at r16 r17
      have hord := HLB0.out.ord
      have hne : ¬ c16 = c17 := by omega
      have hne2 : ¬ c17 = c16 := by omega
      have HGS0 := Lib.hid (show GSt b t S F wb mb mm nn0b f0b nm0b g0b s ((u0.setCell ⟨c16, 0, none⟩ (.int .i64 sm0)).setCell ⟨c17, 0, none⟩ (.bool true)) from HGB0.out.keep (G := fun i => i = c16 ∨ i = c17) (Keeps.setCell (p := ⟨c17, 0, none⟩) (Keeps.setCell (p := ⟨c16, 0, none⟩) (Keeps.refl (fun i => i = c16 ∨ i = c17) u0) (fun _ => .inl rfl) _) (fun _ => .inr rfl) _) (fun i e => by
        have := HLB0.out.low
        have ho := HLB0.out.out i
        exact ⟨fun hF => by have := ho hF; omega, by omega, by omega, by omega⟩))
      have HLS0 := Lib.hid (HLB0.out.set sm0)
      have HKT0 := Lib.hid (Keeps.setCell (p := ⟨c17, 0, none⟩) (Keeps.setCell (p := ⟨c16, 0, none⟩) HKB0.out (fun _ => .inr (.inr (.inr (.inl rfl)))) (.int .i64 sm0)) (fun _ => .inr (.inr (.inr (.inr rfl)))) (.bool true))
      obtain ⟨Y0, hY⟩ : ∃ Y, Y = (u0.setCell ⟨c16, 0, none⟩ (.int .i64 sm0)).setCell ⟨c17, 0, none⟩ (.bool true) := ⟨_, rfl⟩
      rw [← hY] at HGS0 HLS0 HKT0
      have HY0 := Lib.hid hY
      clear hord hY
      have HSK0 := Lib.hid (show lookT (edgeT n s) add (kidT k0 T) none = some sm0 from by rw [look_first HEB0.out.symm, HSM0.out])
      go_upto_region 8 with fail
      rw [← HY0.out]
      clear r16 r17 z16 z17
      go_wp2_with fail
      rw [rounds_succ]
      have e1 := HLS0.out.k5
      have e2 := HLS0.out.kid hk1
      have HC := Lib.hid (HEM.out b t S F wb mb nn0b f0b (kidT k1 T) (qAt q k1) Y0.drew (HGS0.out.st.below (Below.refl _ Y0).drew) ht (HDEN.out k1 hk1))
      have HCS := Lib.hid (show Y0.drew.cell? ⟨c5, 0, none⟩ = some (.pointer (some ⟨wb, 0, none⟩)) ∧ Y0.drew.cell? ⟨c15, k1, none⟩ = some (.int .i64 (qAt q k1)) from ⟨e1, e2⟩)
      have HKK := Lib.hid (show ∀ w', Keeps (fun i => i = wb ∨ i = mb) Y0.drew w' → LSt B F wb mb mm q lv s c5 c7 c8 c9 c15 c16 c17 (some sm0) w' from fun w' hk => (HLS0.out.below (Below.refl _ Y0).drew).keep hk (fun i e => by have := HLS0.out.low; rcases e with e | e <;> omega))
      have HKS := Lib.hid (show ∀ w', Keeps (fun i => i = wb ∨ i = mb) Y0.drew w' → w'.cell? ⟨c5, 0, none⟩ = some (.pointer (some ⟨wb, 0, none⟩)) ∧ w'.cell? ⟨c15, k1, none⟩ = some (.int .i64 (qAt q k1)) from fun w' hk => ⟨(HKK.out w' hk).k5, (HKK.out w' hk).kid hk1⟩)
      obtain ⟨eb, heb⟩ : ∃ eb, eb = emB (kidT k1 T) := ⟨_, rfl⟩
      rw [← heb] at HC
      have HEB1 := Lib.hid heb
      clear heb
      go_upto_region 4 with fail
      clear e1 e2
      go_region_held3 (fun w' => w'.cell? ⟨c5, 0, none⟩ = some (.pointer (some ⟨wb, 0, none⟩)) ∧ w'.cell? ⟨c15, k1, none⟩ = some (.int .i64 (qAt q k1))) (first | exact HCS.out | exact HKS.out _ (by assumption)) ((go_at_call 52; with_reducible refine HC.out.mono ?_; rintro e v1 ⟨rfl, nn1a, f1a, hst, hkp⟩))
      have HGA1 := Lib.hid ((HGS0.out.below (Below.refl _ Y0).drew).empty hst hkp)
      have HLA1 := Lib.hid (HKK.out v1 hkp)
      have HKA1 := Lib.hid ((HKT0.out.drew).trans (hkp.mono (G := fun i => i = wb ∨ i = mb ∨ i = mm ∨ i = c16 ∨ i = c17) fun i _ e => by rcases e with e | e; exact .inl e; exact .inr (.inl e)) (fun _ _ e => e))
      clear hst hkp HC HCS HKK HKS
      cases eb with
      | true =>
        have HSK1 := Lib.hid (show lookT (edgeT n s) add (kidT k1 T) (some sm0) = (some sm0) from look_skip HEB1.out.symm)
        go_wp2_with fail
        rw [rounds_succ]
        go_wp2_with fail
        go_end0
        refine ⟨rfl, nn1a, f1a, nm0b, g0b, HGA1.out, ?_, HKA1.out⟩
        rw [HSK0.out, HSK1.out]
        exact HLA1.out
      | false =>
        obtain ⟨ev, hev⟩ : ∃ ev, ev = edgeT n s (kidT k1 T) := ⟨_, rfl⟩
        have hevb : ev ≤ 17592186044416 := by
          have h1 := edge_lt hs (full_kid HFULL.out k1) HEB1.out.symm
          rw [← hev] at h1
          have h2 : 2 ^ n ≤ 2 ^ 44 := Nat.pow_le_pow_right (by omega) (by omega)
          omega
        have HCE := HIH.out b t S F wb mb mm nn1a f1a nm0b g0b s (kidT k1 T) (qAt q k1) v1.drew hs (HGA1.out.below (Below.refl _ v1).drew) ht (HDEN.out k1 hk1) HEB1.out.symm
        rw [← hev] at HCE
        have HCE := Lib.hid HCE
        have HEV := Lib.hid hev
        have e1 := HLA1.out.k5
        have e2 := HLA1.out.kid hk1
        have e3 := HLA1.out.k7
        have e4 := HLA1.out.k8
        have e5 := HLA1.out.k9
        have HCS := Lib.hid (show v1.drew.cell? ⟨c5, 0, none⟩ = some (.pointer (some ⟨wb, 0, none⟩)) ∧ v1.drew.cell? ⟨c15, k1, none⟩ = some (.int .i64 (qAt q k1)) ∧ v1.drew.cell? ⟨c7, 0, none⟩ = some (.int .i64 lv) ∧ v1.drew.cell? ⟨c8, 0, none⟩ = some (.int .i64 s) ∧ v1.drew.cell? ⟨c9, 0, none⟩ = some (.map (some mm)) from ⟨e1, e2, e3, e4, e5⟩)
        have HKK := Lib.hid (show ∀ w', Keeps (fun i => i = wb ∨ i = mb ∨ i = mm) v1.drew w' → LSt B F wb mb mm q lv s c5 c7 c8 c9 c15 c16 c17 (some sm0) w' from fun w' hk => (HLA1.out.below (Below.refl _ v1).drew).keep hk (fun i e => by have := HLA1.out.low; rcases e with e | e | e <;> omega))
        have HKS := Lib.hid (show ∀ w', Keeps (fun i => i = wb ∨ i = mb ∨ i = mm) v1.drew w' → w'.cell? ⟨c5, 0, none⟩ = some (.pointer (some ⟨wb, 0, none⟩)) ∧ w'.cell? ⟨c15, k1, none⟩ = some (.int .i64 (qAt q k1)) ∧ w'.cell? ⟨c7, 0, none⟩ = some (.int .i64 lv) ∧ w'.cell? ⟨c8, 0, none⟩ = some (.int .i64 s) ∧ w'.cell? ⟨c9, 0, none⟩ = some (.map (some mm)) from fun w' hk => ⟨(HKK.out w' hk).k5, (HKK.out w' hk).kid hk1, (HKK.out w' hk).k7, (HKK.out w' hk).k8, (HKK.out w' hk).k9⟩)
        clear e1 e2 e3 e4 e5 hev
        obtain ⟨sm1, hsm⟩ : ∃ sm, sm = add + ev := ⟨_, rfl⟩
        have hsI : (add : Int) + (ev : Int) = (sm1 : Int) := by omega
        have hws1 : IntKind.i64.wrap (sm1 : Int) = (sm1 : Int) := by rw [IntKind.wrap_i64]; omega
        have hwa1 : IntKind.i64.wrap ((add : Int) + (ev : Int)) = (sm1 : Int) := by rw [IntKind.wrap_i64]; omega
        have HSME1 := Lib.hid hsm
        clear hsm
        go_upto_region 5 with fail
        go_region_held3 (fun w' => w'.cell? ⟨c5, 0, none⟩ = some (.pointer (some ⟨wb, 0, none⟩)) ∧ w'.cell? ⟨c15, k1, none⟩ = some (.int .i64 (qAt q k1)) ∧ w'.cell? ⟨c7, 0, none⟩ = some (.int .i64 lv) ∧ w'.cell? ⟨c8, 0, none⟩ = some (.int .i64 s) ∧ w'.cell? ⟨c9, 0, none⟩ = some (.map (some mm))) (first | exact HCS.out | exact HKS.out _ (by assumption)) ((go_at_call 53; with_reducible refine HCE.out.mono ?_; rintro e u1 ⟨rfl, nn1b, f1b, nm1b, g1b, hst, hkp⟩))
        have HGB1 := Lib.hid hst
        have HLB1 := Lib.hid (HKK.out u1 hkp)
        have HKB1 := Lib.hid ((HKA1.out.drew).trans (hkp.mono (G := fun i => i = wb ∨ i = mb ∨ i = mm ∨ i = c16 ∨ i = c17) fun i _ e => by rcases e with e | e | e; exact .inl e; exact .inr (.inl e); exact .inr (.inr (.inl e))) (fun _ _ e => e))
        clear hst hkp HCE HCS HKK HKS
        have HSM1 := Lib.hid (show add + edgeT n s (kidT k1 T) = sm1 by rw [← HEV.out]; exact HSME1.out.symm)
        have r16 := Joins.cell_of_block HLB1.out.k16 0
        have r17 := Joins.cell_of_block HLB1.out.k17 0
        have z16 := Joins.unfrozen_of_block HLB1.out.k16 0
        have z17 := Joins.unfrozen_of_block HLB1.out.k17 0
        simp at r16 r17
        have hord := HLB1.out.ord
        have hne : ¬ c16 = c17 := by omega
        have hne2 : ¬ c17 = c16 := by omega
        have HGS1 := Lib.hid (show GSt b t S F wb mb mm nn1b f1b nm1b g1b s ((u1.setCell ⟨c16, 0, none⟩ (.int .i64 sm1)).setCell ⟨c17, 0, none⟩ (.bool true)) from HGB1.out.keep (G := fun i => i = c16 ∨ i = c17) (Keeps.setCell (p := ⟨c17, 0, none⟩) (Keeps.setCell (p := ⟨c16, 0, none⟩) (Keeps.refl (fun i => i = c16 ∨ i = c17) u1) (fun _ => .inl rfl) _) (fun _ => .inr rfl) _) (fun i e => by
          have := HLB1.out.low
          have ho := HLB1.out.out i
          exact ⟨fun hF => by have := ho hF; omega, by omega, by omega, by omega⟩))
        have HLS1 := Lib.hid (HLB1.out.set sm1)
        have HKT1 := Lib.hid (Keeps.setCell (p := ⟨c17, 0, none⟩) (Keeps.setCell (p := ⟨c16, 0, none⟩) HKB1.out (fun _ => .inr (.inr (.inr (.inl rfl)))) (.int .i64 sm1)) (fun _ => .inr (.inr (.inr (.inr rfl)))) (.bool true))
        obtain ⟨Y1, hY⟩ : ∃ Y, Y = (u1.setCell ⟨c16, 0, none⟩ (.int .i64 sm1)).setCell ⟨c17, 0, none⟩ (.bool true) := ⟨_, rfl⟩
        rw [← hY] at HGS1 HLS1 HKT1
        have HY1 := Lib.hid hY
        clear hord hY
        by_cases hlt : sm1 < sm0
        · have q1 : decide ((sm1 : Int) < (sm0 : Int)) = true := decide_eq_true (by omega)
          have q2 : decide (sm1 < sm0) = true := decide_eq_true hlt
          have HSK1 := Lib.hid (show lookT (edgeT n s) add (kidT k1 T) (some sm0) = some sm1 from by rw [look_less HEB1.out.symm (by rw [HSM1.out]; exact hlt), HSM1.out])
          go_upto_region 8 with fail
          rw [← HY1.out]
          clear r16 r17 z16 z17
          go_wp2_with fail
          rw [rounds_succ]
          go_wp2_with fail
          go_end0
          refine ⟨rfl, nn1b, f1b, nm1b, g1b, HGS1.out, ?_, HKT1.out⟩
          rw [HSK0.out, HSK1.out]
          exact HLS1.out
        · have q1 : decide ((sm1 : Int) < (sm0 : Int)) = false := decide_eq_false (by omega)
          have q2 : decide (sm1 < sm0) = false := decide_eq_false hlt
          have HSK1 := Lib.hid (show lookT (edgeT n s) add (kidT k1 T) (some sm0) = (some sm0) from look_more HEB1.out.symm (by rw [HSM1.out]; exact hlt))
          go_wp2_with fail
          clear r16 r17 z16 z17
          rw [rounds_succ]
          go_wp2_with fail
          go_end0
          refine ⟨rfl, nn1b, f1b, nm1b, g1b, HGB1.out, ?_, HKB1.out⟩
          rw [HSK0.out, HSK1.out]
          exact HLB1.out
  | some m0 =>
    rw [rounds_succ]
    have e1 := HL.out.k5
    have e2 := HL.out.kid hk0
    have HC := Lib.hid (HEM.out b t S F wb mb nn f (kidT k0 T) (qAt q k0) X.drew (HG.out.st.below (Below.refl _ X).drew) ht (HDEN.out k0 hk0))
    have HCS := Lib.hid (show X.drew.cell? ⟨c5, 0, none⟩ = some (.pointer (some ⟨wb, 0, none⟩)) ∧ X.drew.cell? ⟨c15, k0, none⟩ = some (.int .i64 (qAt q k0)) from ⟨e1, e2⟩)
    have HKK := Lib.hid (show ∀ w', Keeps (fun i => i = wb ∨ i = mb) X.drew w' → LSt B F wb mb mm q lv s c5 c7 c8 c9 c15 c16 c17 (some m0) w' from fun w' hk => (HL.out.below (Below.refl _ X).drew).keep hk (fun i e => by have := HL.out.low; rcases e with e | e <;> omega))
    have HKS := Lib.hid (show ∀ w', Keeps (fun i => i = wb ∨ i = mb) X.drew w' → w'.cell? ⟨c5, 0, none⟩ = some (.pointer (some ⟨wb, 0, none⟩)) ∧ w'.cell? ⟨c15, k0, none⟩ = some (.int .i64 (qAt q k0)) from fun w' hk => ⟨(HKK.out w' hk).k5, (HKK.out w' hk).kid hk0⟩)
    obtain ⟨eb, heb⟩ : ∃ eb, eb = emB (kidT k0 T) := ⟨_, rfl⟩
    rw [← heb] at HC
    have HEB0 := Lib.hid heb
    clear heb
    go_upto_region 4 with fail
    clear e1 e2
    go_region_held3 (fun w' => w'.cell? ⟨c5, 0, none⟩ = some (.pointer (some ⟨wb, 0, none⟩)) ∧ w'.cell? ⟨c15, k0, none⟩ = some (.int .i64 (qAt q k0))) (first | exact HCS.out | exact HKS.out _ (by assumption)) ((go_at_call 52; with_reducible refine HC.out.mono ?_; rintro e v0 ⟨rfl, nn0a, f0a, hst, hkp⟩))
    have HGA0 := Lib.hid ((HG.out.below (Below.refl _ X).drew).empty hst hkp)
    have HLA0 := Lib.hid (HKK.out v0 hkp)
    have HKA0 := Lib.hid ((HK.out.drew).trans (hkp.mono (G := fun i => i = wb ∨ i = mb ∨ i = mm ∨ i = c16 ∨ i = c17) fun i _ e => by rcases e with e | e; exact .inl e; exact .inr (.inl e)) (fun _ _ e => e))
    clear hst hkp HC HCS HKK HKS
    cases eb with
    | true =>
      have HSK0 := Lib.hid (show lookT (edgeT n s) add (kidT k0 T) (some m0) = (some m0) from look_skip HEB0.out.symm)
      go_wp2_with fail
      rw [rounds_succ]
      have e1 := HLA0.out.k5
      have e2 := HLA0.out.kid hk1
      have HC := Lib.hid (HEM.out b t S F wb mb nn0a f0a (kidT k1 T) (qAt q k1) v0.drew (HGA0.out.st.below (Below.refl _ v0).drew) ht (HDEN.out k1 hk1))
      have HCS := Lib.hid (show v0.drew.cell? ⟨c5, 0, none⟩ = some (.pointer (some ⟨wb, 0, none⟩)) ∧ v0.drew.cell? ⟨c15, k1, none⟩ = some (.int .i64 (qAt q k1)) from ⟨e1, e2⟩)
      have HKK := Lib.hid (show ∀ w', Keeps (fun i => i = wb ∨ i = mb) v0.drew w' → LSt B F wb mb mm q lv s c5 c7 c8 c9 c15 c16 c17 (some m0) w' from fun w' hk => (HLA0.out.below (Below.refl _ v0).drew).keep hk (fun i e => by have := HLA0.out.low; rcases e with e | e <;> omega))
      have HKS := Lib.hid (show ∀ w', Keeps (fun i => i = wb ∨ i = mb) v0.drew w' → w'.cell? ⟨c5, 0, none⟩ = some (.pointer (some ⟨wb, 0, none⟩)) ∧ w'.cell? ⟨c15, k1, none⟩ = some (.int .i64 (qAt q k1)) from fun w' hk => ⟨(HKK.out w' hk).k5, (HKK.out w' hk).kid hk1⟩)
      obtain ⟨eb, heb⟩ : ∃ eb, eb = emB (kidT k1 T) := ⟨_, rfl⟩
      rw [← heb] at HC
      have HEB1 := Lib.hid heb
      clear heb
      go_upto_region 4 with fail
      clear e1 e2
      go_region_held3 (fun w' => w'.cell? ⟨c5, 0, none⟩ = some (.pointer (some ⟨wb, 0, none⟩)) ∧ w'.cell? ⟨c15, k1, none⟩ = some (.int .i64 (qAt q k1))) (first | exact HCS.out | exact HKS.out _ (by assumption)) ((go_at_call 52; with_reducible refine HC.out.mono ?_; rintro e v1 ⟨rfl, nn1a, f1a, hst, hkp⟩))
      have HGA1 := Lib.hid ((HGA0.out.below (Below.refl _ v0).drew).empty hst hkp)
      have HLA1 := Lib.hid (HKK.out v1 hkp)
      have HKA1 := Lib.hid ((HKA0.out.drew).trans (hkp.mono (G := fun i => i = wb ∨ i = mb ∨ i = mm ∨ i = c16 ∨ i = c17) fun i _ e => by rcases e with e | e; exact .inl e; exact .inr (.inl e)) (fun _ _ e => e))
      clear hst hkp HC HCS HKK HKS
      cases eb with
      | true =>
        have HSK1 := Lib.hid (show lookT (edgeT n s) add (kidT k1 T) (some m0) = (some m0) from look_skip HEB1.out.symm)
        go_wp2_with fail
        rw [rounds_succ]
        go_wp2_with fail
        go_end0
        refine ⟨rfl, nn1a, f1a, nm, g, HGA1.out, ?_, HKA1.out⟩
        rw [HSK0.out, HSK1.out]
        exact HLA1.out
      | false =>
        obtain ⟨ev, hev⟩ : ∃ ev, ev = edgeT n s (kidT k1 T) := ⟨_, rfl⟩
        have hevb : ev ≤ 17592186044416 := by
          have h1 := edge_lt hs (full_kid HFULL.out k1) HEB1.out.symm
          rw [← hev] at h1
          have h2 : 2 ^ n ≤ 2 ^ 44 := Nat.pow_le_pow_right (by omega) (by omega)
          omega
        have HCE := HIH.out b t S F wb mb mm nn1a f1a nm g s (kidT k1 T) (qAt q k1) v1.drew hs (HGA1.out.below (Below.refl _ v1).drew) ht (HDEN.out k1 hk1) HEB1.out.symm
        rw [← hev] at HCE
        have HCE := Lib.hid HCE
        have HEV := Lib.hid hev
        have e1 := HLA1.out.k5
        have e2 := HLA1.out.kid hk1
        have e3 := HLA1.out.k7
        have e4 := HLA1.out.k8
        have e5 := HLA1.out.k9
        have HCS := Lib.hid (show v1.drew.cell? ⟨c5, 0, none⟩ = some (.pointer (some ⟨wb, 0, none⟩)) ∧ v1.drew.cell? ⟨c15, k1, none⟩ = some (.int .i64 (qAt q k1)) ∧ v1.drew.cell? ⟨c7, 0, none⟩ = some (.int .i64 lv) ∧ v1.drew.cell? ⟨c8, 0, none⟩ = some (.int .i64 s) ∧ v1.drew.cell? ⟨c9, 0, none⟩ = some (.map (some mm)) from ⟨e1, e2, e3, e4, e5⟩)
        have HKK := Lib.hid (show ∀ w', Keeps (fun i => i = wb ∨ i = mb ∨ i = mm) v1.drew w' → LSt B F wb mb mm q lv s c5 c7 c8 c9 c15 c16 c17 (some m0) w' from fun w' hk => (HLA1.out.below (Below.refl _ v1).drew).keep hk (fun i e => by have := HLA1.out.low; rcases e with e | e | e <;> omega))
        have HKS := Lib.hid (show ∀ w', Keeps (fun i => i = wb ∨ i = mb ∨ i = mm) v1.drew w' → w'.cell? ⟨c5, 0, none⟩ = some (.pointer (some ⟨wb, 0, none⟩)) ∧ w'.cell? ⟨c15, k1, none⟩ = some (.int .i64 (qAt q k1)) ∧ w'.cell? ⟨c7, 0, none⟩ = some (.int .i64 lv) ∧ w'.cell? ⟨c8, 0, none⟩ = some (.int .i64 s) ∧ w'.cell? ⟨c9, 0, none⟩ = some (.map (some mm)) from fun w' hk => ⟨(HKK.out w' hk).k5, (HKK.out w' hk).kid hk1, (HKK.out w' hk).k7, (HKK.out w' hk).k8, (HKK.out w' hk).k9⟩)
        clear e1 e2 e3 e4 e5 hev
        obtain ⟨sm1, hsm⟩ : ∃ sm, sm = add + ev := ⟨_, rfl⟩
        have hsI : (add : Int) + (ev : Int) = (sm1 : Int) := by omega
        have hws1 : IntKind.i64.wrap (sm1 : Int) = (sm1 : Int) := by rw [IntKind.wrap_i64]; omega
        have hwa1 : IntKind.i64.wrap ((add : Int) + (ev : Int)) = (sm1 : Int) := by rw [IntKind.wrap_i64]; omega
        have HSME1 := Lib.hid hsm
        clear hsm
        go_upto_region 5 with fail
        go_region_held3 (fun w' => w'.cell? ⟨c5, 0, none⟩ = some (.pointer (some ⟨wb, 0, none⟩)) ∧ w'.cell? ⟨c15, k1, none⟩ = some (.int .i64 (qAt q k1)) ∧ w'.cell? ⟨c7, 0, none⟩ = some (.int .i64 lv) ∧ w'.cell? ⟨c8, 0, none⟩ = some (.int .i64 s) ∧ w'.cell? ⟨c9, 0, none⟩ = some (.map (some mm))) (first | exact HCS.out | exact HKS.out _ (by assumption)) ((go_at_call 53; with_reducible refine HCE.out.mono ?_; rintro e u1 ⟨rfl, nn1b, f1b, nm1b, g1b, hst, hkp⟩))
        have HGB1 := Lib.hid hst
        have HLB1 := Lib.hid (HKK.out u1 hkp)
        have HKB1 := Lib.hid ((HKA1.out.drew).trans (hkp.mono (G := fun i => i = wb ∨ i = mb ∨ i = mm ∨ i = c16 ∨ i = c17) fun i _ e => by rcases e with e | e | e; exact .inl e; exact .inr (.inl e); exact .inr (.inr (.inl e))) (fun _ _ e => e))
        clear hst hkp HCE HCS HKK HKS
        have HSM1 := Lib.hid (show add + edgeT n s (kidT k1 T) = sm1 by rw [← HEV.out]; exact HSME1.out.symm)
        have r16 := Joins.cell_of_block HLB1.out.k16 0
        have r17 := Joins.cell_of_block HLB1.out.k17 0
        have z16 := Joins.unfrozen_of_block HLB1.out.k16 0
        have z17 := Joins.unfrozen_of_block HLB1.out.k17 0
        simp at r16 r17
        have hord := HLB1.out.ord
        have hne : ¬ c16 = c17 := by omega
        have hne2 : ¬ c17 = c16 := by omega
        have HGS1 := Lib.hid (show GSt b t S F wb mb mm nn1b f1b nm1b g1b s ((u1.setCell ⟨c16, 0, none⟩ (.int .i64 sm1)).setCell ⟨c17, 0, none⟩ (.bool true)) from HGB1.out.keep (G := fun i => i = c16 ∨ i = c17) (Keeps.setCell (p := ⟨c17, 0, none⟩) (Keeps.setCell (p := ⟨c16, 0, none⟩) (Keeps.refl (fun i => i = c16 ∨ i = c17) u1) (fun _ => .inl rfl) _) (fun _ => .inr rfl) _) (fun i e => by
          have := HLB1.out.low
          have ho := HLB1.out.out i
          exact ⟨fun hF => by have := ho hF; omega, by omega, by omega, by omega⟩))
        have HLS1 := Lib.hid (HLB1.out.set sm1)
        have HKT1 := Lib.hid (Keeps.setCell (p := ⟨c17, 0, none⟩) (Keeps.setCell (p := ⟨c16, 0, none⟩) HKB1.out (fun _ => .inr (.inr (.inr (.inl rfl)))) (.int .i64 sm1)) (fun _ => .inr (.inr (.inr (.inr rfl)))) (.bool true))
        obtain ⟨Y1, hY⟩ : ∃ Y, Y = (u1.setCell ⟨c16, 0, none⟩ (.int .i64 sm1)).setCell ⟨c17, 0, none⟩ (.bool true) := ⟨_, rfl⟩
        rw [← hY] at HGS1 HLS1 HKT1
        have HY1 := Lib.hid hY
        clear hord hY
        by_cases hlt : sm1 < m0
        · have q1 : decide ((sm1 : Int) < (m0 : Int)) = true := decide_eq_true (by omega)
          have q2 : decide (sm1 < m0) = true := decide_eq_true hlt
          have HSK1 := Lib.hid (show lookT (edgeT n s) add (kidT k1 T) (some m0) = some sm1 from by rw [look_less HEB1.out.symm (by rw [HSM1.out]; exact hlt), HSM1.out])
          go_upto_region 8 with fail
          rw [← HY1.out]
          clear r16 r17 z16 z17
          go_wp2_with fail
          rw [rounds_succ]
          go_wp2_with fail
          go_end0
          refine ⟨rfl, nn1b, f1b, nm1b, g1b, HGS1.out, ?_, HKT1.out⟩
          rw [HSK0.out, HSK1.out]
          exact HLS1.out
        · have q1 : decide ((sm1 : Int) < (m0 : Int)) = false := decide_eq_false (by omega)
          have q2 : decide (sm1 < m0) = false := decide_eq_false hlt
          have HSK1 := Lib.hid (show lookT (edgeT n s) add (kidT k1 T) (some m0) = (some m0) from look_more HEB1.out.symm (by rw [HSM1.out]; exact hlt))
          go_wp2_with fail
          clear r16 r17 z16 z17
          rw [rounds_succ]
          go_wp2_with fail
          go_end0
          refine ⟨rfl, nn1b, f1b, nm1b, g1b, HGB1.out, ?_, HKB1.out⟩
          rw [HSK0.out, HSK1.out]
          exact HLB1.out
    | false =>
      obtain ⟨ev, hev⟩ : ∃ ev, ev = edgeT n s (kidT k0 T) := ⟨_, rfl⟩
      have hevb : ev ≤ 17592186044416 := by
        have h1 := edge_lt hs (full_kid HFULL.out k0) HEB0.out.symm
        rw [← hev] at h1
        have h2 : 2 ^ n ≤ 2 ^ 44 := Nat.pow_le_pow_right (by omega) (by omega)
        omega
      have HCE := HIH.out b t S F wb mb mm nn0a f0a nm g s (kidT k0 T) (qAt q k0) v0.drew hs (HGA0.out.below (Below.refl _ v0).drew) ht (HDEN.out k0 hk0) HEB0.out.symm
      rw [← hev] at HCE
      have HCE := Lib.hid HCE
      have HEV := Lib.hid hev
      have e1 := HLA0.out.k5
      have e2 := HLA0.out.kid hk0
      have e3 := HLA0.out.k7
      have e4 := HLA0.out.k8
      have e5 := HLA0.out.k9
      have HCS := Lib.hid (show v0.drew.cell? ⟨c5, 0, none⟩ = some (.pointer (some ⟨wb, 0, none⟩)) ∧ v0.drew.cell? ⟨c15, k0, none⟩ = some (.int .i64 (qAt q k0)) ∧ v0.drew.cell? ⟨c7, 0, none⟩ = some (.int .i64 lv) ∧ v0.drew.cell? ⟨c8, 0, none⟩ = some (.int .i64 s) ∧ v0.drew.cell? ⟨c9, 0, none⟩ = some (.map (some mm)) from ⟨e1, e2, e3, e4, e5⟩)
      have HKK := Lib.hid (show ∀ w', Keeps (fun i => i = wb ∨ i = mb ∨ i = mm) v0.drew w' → LSt B F wb mb mm q lv s c5 c7 c8 c9 c15 c16 c17 (some m0) w' from fun w' hk => (HLA0.out.below (Below.refl _ v0).drew).keep hk (fun i e => by have := HLA0.out.low; rcases e with e | e | e <;> omega))
      have HKS := Lib.hid (show ∀ w', Keeps (fun i => i = wb ∨ i = mb ∨ i = mm) v0.drew w' → w'.cell? ⟨c5, 0, none⟩ = some (.pointer (some ⟨wb, 0, none⟩)) ∧ w'.cell? ⟨c15, k0, none⟩ = some (.int .i64 (qAt q k0)) ∧ w'.cell? ⟨c7, 0, none⟩ = some (.int .i64 lv) ∧ w'.cell? ⟨c8, 0, none⟩ = some (.int .i64 s) ∧ w'.cell? ⟨c9, 0, none⟩ = some (.map (some mm)) from fun w' hk => ⟨(HKK.out w' hk).k5, (HKK.out w' hk).kid hk0, (HKK.out w' hk).k7, (HKK.out w' hk).k8, (HKK.out w' hk).k9⟩)
      clear e1 e2 e3 e4 e5 hev
      obtain ⟨sm0, hsm⟩ : ∃ sm, sm = add + ev := ⟨_, rfl⟩
      have hsI : (add : Int) + (ev : Int) = (sm0 : Int) := by omega
      have hws0 : IntKind.i64.wrap (sm0 : Int) = (sm0 : Int) := by rw [IntKind.wrap_i64]; omega
      have hwa0 : IntKind.i64.wrap ((add : Int) + (ev : Int)) = (sm0 : Int) := by rw [IntKind.wrap_i64]; omega
      have HSME0 := Lib.hid hsm
      clear hsm
      go_upto_region 5 with fail
      go_region_held3 (fun w' => w'.cell? ⟨c5, 0, none⟩ = some (.pointer (some ⟨wb, 0, none⟩)) ∧ w'.cell? ⟨c15, k0, none⟩ = some (.int .i64 (qAt q k0)) ∧ w'.cell? ⟨c7, 0, none⟩ = some (.int .i64 lv) ∧ w'.cell? ⟨c8, 0, none⟩ = some (.int .i64 s) ∧ w'.cell? ⟨c9, 0, none⟩ = some (.map (some mm))) (first | exact HCS.out | exact HKS.out _ (by assumption)) ((go_at_call 53; with_reducible refine HCE.out.mono ?_; rintro e u0 ⟨rfl, nn0b, f0b, nm0b, g0b, hst, hkp⟩))
      have HGB0 := Lib.hid hst
      have HLB0 := Lib.hid (HKK.out u0 hkp)
      have HKB0 := Lib.hid ((HKA0.out.drew).trans (hkp.mono (G := fun i => i = wb ∨ i = mb ∨ i = mm ∨ i = c16 ∨ i = c17) fun i _ e => by rcases e with e | e | e; exact .inl e; exact .inr (.inl e); exact .inr (.inr (.inl e))) (fun _ _ e => e))
      clear hst hkp HCE HCS HKK HKS
      have HSM0 := Lib.hid (show add + edgeT n s (kidT k0 T) = sm0 by rw [← HEV.out]; exact HSME0.out.symm)
      have r16 := Joins.cell_of_block HLB0.out.k16 0
      have r17 := Joins.cell_of_block HLB0.out.k17 0
      have z16 := Joins.unfrozen_of_block HLB0.out.k16 0
      have z17 := Joins.unfrozen_of_block HLB0.out.k17 0
      simp at r16 r17
      have hord := HLB0.out.ord
      have hne : ¬ c16 = c17 := by omega
      have hne2 : ¬ c17 = c16 := by omega
      have HGS0 := Lib.hid (show GSt b t S F wb mb mm nn0b f0b nm0b g0b s ((u0.setCell ⟨c16, 0, none⟩ (.int .i64 sm0)).setCell ⟨c17, 0, none⟩ (.bool true)) from HGB0.out.keep (G := fun i => i = c16 ∨ i = c17) (Keeps.setCell (p := ⟨c17, 0, none⟩) (Keeps.setCell (p := ⟨c16, 0, none⟩) (Keeps.refl (fun i => i = c16 ∨ i = c17) u0) (fun _ => .inl rfl) _) (fun _ => .inr rfl) _) (fun i e => by
        have := HLB0.out.low
        have ho := HLB0.out.out i
        exact ⟨fun hF => by have := ho hF; omega, by omega, by omega, by omega⟩))
      have HLS0 := Lib.hid (HLB0.out.set sm0)
      have HKT0 := Lib.hid (Keeps.setCell (p := ⟨c17, 0, none⟩) (Keeps.setCell (p := ⟨c16, 0, none⟩) HKB0.out (fun _ => .inr (.inr (.inr (.inl rfl)))) (.int .i64 sm0)) (fun _ => .inr (.inr (.inr (.inr rfl)))) (.bool true))
      obtain ⟨Y0, hY⟩ : ∃ Y, Y = (u0.setCell ⟨c16, 0, none⟩ (.int .i64 sm0)).setCell ⟨c17, 0, none⟩ (.bool true) := ⟨_, rfl⟩
      rw [← hY] at HGS0 HLS0 HKT0
      have HY0 := Lib.hid hY
      clear hord hY
      by_cases hlt : sm0 < m0
      · have q1 : decide ((sm0 : Int) < (m0 : Int)) = true := decide_eq_true (by omega)
        have q2 : decide (sm0 < m0) = true := decide_eq_true hlt
        have HSK0 := Lib.hid (show lookT (edgeT n s) add (kidT k0 T) (some m0) = some sm0 from by rw [look_less HEB0.out.symm (by rw [HSM0.out]; exact hlt), HSM0.out])
        go_upto_region 8 with fail
        rw [← HY0.out]
        clear r16 r17 z16 z17
        go_wp2_with fail
        rw [rounds_succ]
        have e1 := HLS0.out.k5
        have e2 := HLS0.out.kid hk1
        have HC := Lib.hid (HEM.out b t S F wb mb nn0b f0b (kidT k1 T) (qAt q k1) Y0.drew (HGS0.out.st.below (Below.refl _ Y0).drew) ht (HDEN.out k1 hk1))
        have HCS := Lib.hid (show Y0.drew.cell? ⟨c5, 0, none⟩ = some (.pointer (some ⟨wb, 0, none⟩)) ∧ Y0.drew.cell? ⟨c15, k1, none⟩ = some (.int .i64 (qAt q k1)) from ⟨e1, e2⟩)
        have HKK := Lib.hid (show ∀ w', Keeps (fun i => i = wb ∨ i = mb) Y0.drew w' → LSt B F wb mb mm q lv s c5 c7 c8 c9 c15 c16 c17 (some sm0) w' from fun w' hk => (HLS0.out.below (Below.refl _ Y0).drew).keep hk (fun i e => by have := HLS0.out.low; rcases e with e | e <;> omega))
        have HKS := Lib.hid (show ∀ w', Keeps (fun i => i = wb ∨ i = mb) Y0.drew w' → w'.cell? ⟨c5, 0, none⟩ = some (.pointer (some ⟨wb, 0, none⟩)) ∧ w'.cell? ⟨c15, k1, none⟩ = some (.int .i64 (qAt q k1)) from fun w' hk => ⟨(HKK.out w' hk).k5, (HKK.out w' hk).kid hk1⟩)
        obtain ⟨eb, heb⟩ : ∃ eb, eb = emB (kidT k1 T) := ⟨_, rfl⟩
        rw [← heb] at HC
        have HEB1 := Lib.hid heb
        clear heb
        go_upto_region 4 with fail
        clear e1 e2
        go_region_held3 (fun w' => w'.cell? ⟨c5, 0, none⟩ = some (.pointer (some ⟨wb, 0, none⟩)) ∧ w'.cell? ⟨c15, k1, none⟩ = some (.int .i64 (qAt q k1))) (first | exact HCS.out | exact HKS.out _ (by assumption)) ((go_at_call 52; with_reducible refine HC.out.mono ?_; rintro e v1 ⟨rfl, nn1a, f1a, hst, hkp⟩))
        have HGA1 := Lib.hid ((HGS0.out.below (Below.refl _ Y0).drew).empty hst hkp)
        have HLA1 := Lib.hid (HKK.out v1 hkp)
        have HKA1 := Lib.hid ((HKT0.out.drew).trans (hkp.mono (G := fun i => i = wb ∨ i = mb ∨ i = mm ∨ i = c16 ∨ i = c17) fun i _ e => by rcases e with e | e; exact .inl e; exact .inr (.inl e)) (fun _ _ e => e))
        clear hst hkp HC HCS HKK HKS
        cases eb with
        | true =>
          have HSK1 := Lib.hid (show lookT (edgeT n s) add (kidT k1 T) (some sm0) = (some sm0) from look_skip HEB1.out.symm)
          go_wp2_with fail
          rw [rounds_succ]
          go_wp2_with fail
          go_end0
          refine ⟨rfl, nn1a, f1a, nm0b, g0b, HGA1.out, ?_, HKA1.out⟩
          rw [HSK0.out, HSK1.out]
          exact HLA1.out
        | false =>
          obtain ⟨ev, hev⟩ : ∃ ev, ev = edgeT n s (kidT k1 T) := ⟨_, rfl⟩
          have hevb : ev ≤ 17592186044416 := by
            have h1 := edge_lt hs (full_kid HFULL.out k1) HEB1.out.symm
            rw [← hev] at h1
            have h2 : 2 ^ n ≤ 2 ^ 44 := Nat.pow_le_pow_right (by omega) (by omega)
            omega
          have HCE := HIH.out b t S F wb mb mm nn1a f1a nm0b g0b s (kidT k1 T) (qAt q k1) v1.drew hs (HGA1.out.below (Below.refl _ v1).drew) ht (HDEN.out k1 hk1) HEB1.out.symm
          rw [← hev] at HCE
          have HCE := Lib.hid HCE
          have HEV := Lib.hid hev
          have e1 := HLA1.out.k5
          have e2 := HLA1.out.kid hk1
          have e3 := HLA1.out.k7
          have e4 := HLA1.out.k8
          have e5 := HLA1.out.k9
          have HCS := Lib.hid (show v1.drew.cell? ⟨c5, 0, none⟩ = some (.pointer (some ⟨wb, 0, none⟩)) ∧ v1.drew.cell? ⟨c15, k1, none⟩ = some (.int .i64 (qAt q k1)) ∧ v1.drew.cell? ⟨c7, 0, none⟩ = some (.int .i64 lv) ∧ v1.drew.cell? ⟨c8, 0, none⟩ = some (.int .i64 s) ∧ v1.drew.cell? ⟨c9, 0, none⟩ = some (.map (some mm)) from ⟨e1, e2, e3, e4, e5⟩)
          have HKK := Lib.hid (show ∀ w', Keeps (fun i => i = wb ∨ i = mb ∨ i = mm) v1.drew w' → LSt B F wb mb mm q lv s c5 c7 c8 c9 c15 c16 c17 (some sm0) w' from fun w' hk => (HLA1.out.below (Below.refl _ v1).drew).keep hk (fun i e => by have := HLA1.out.low; rcases e with e | e | e <;> omega))
          have HKS := Lib.hid (show ∀ w', Keeps (fun i => i = wb ∨ i = mb ∨ i = mm) v1.drew w' → w'.cell? ⟨c5, 0, none⟩ = some (.pointer (some ⟨wb, 0, none⟩)) ∧ w'.cell? ⟨c15, k1, none⟩ = some (.int .i64 (qAt q k1)) ∧ w'.cell? ⟨c7, 0, none⟩ = some (.int .i64 lv) ∧ w'.cell? ⟨c8, 0, none⟩ = some (.int .i64 s) ∧ w'.cell? ⟨c9, 0, none⟩ = some (.map (some mm)) from fun w' hk => ⟨(HKK.out w' hk).k5, (HKK.out w' hk).kid hk1, (HKK.out w' hk).k7, (HKK.out w' hk).k8, (HKK.out w' hk).k9⟩)
          clear e1 e2 e3 e4 e5 hev
          obtain ⟨sm1, hsm⟩ : ∃ sm, sm = add + ev := ⟨_, rfl⟩
          have hsI : (add : Int) + (ev : Int) = (sm1 : Int) := by omega
          have hws1 : IntKind.i64.wrap (sm1 : Int) = (sm1 : Int) := by rw [IntKind.wrap_i64]; omega
          have hwa1 : IntKind.i64.wrap ((add : Int) + (ev : Int)) = (sm1 : Int) := by rw [IntKind.wrap_i64]; omega
          have HSME1 := Lib.hid hsm
          clear hsm
          go_upto_region 5 with fail
          go_region_held3 (fun w' => w'.cell? ⟨c5, 0, none⟩ = some (.pointer (some ⟨wb, 0, none⟩)) ∧ w'.cell? ⟨c15, k1, none⟩ = some (.int .i64 (qAt q k1)) ∧ w'.cell? ⟨c7, 0, none⟩ = some (.int .i64 lv) ∧ w'.cell? ⟨c8, 0, none⟩ = some (.int .i64 s) ∧ w'.cell? ⟨c9, 0, none⟩ = some (.map (some mm))) (first | exact HCS.out | exact HKS.out _ (by assumption)) ((go_at_call 53; with_reducible refine HCE.out.mono ?_; rintro e u1 ⟨rfl, nn1b, f1b, nm1b, g1b, hst, hkp⟩))
          have HGB1 := Lib.hid hst
          have HLB1 := Lib.hid (HKK.out u1 hkp)
          have HKB1 := Lib.hid ((HKA1.out.drew).trans (hkp.mono (G := fun i => i = wb ∨ i = mb ∨ i = mm ∨ i = c16 ∨ i = c17) fun i _ e => by rcases e with e | e | e; exact .inl e; exact .inr (.inl e); exact .inr (.inr (.inl e))) (fun _ _ e => e))
          clear hst hkp HCE HCS HKK HKS
          have HSM1 := Lib.hid (show add + edgeT n s (kidT k1 T) = sm1 by rw [← HEV.out]; exact HSME1.out.symm)
          have r16 := Joins.cell_of_block HLB1.out.k16 0
          have r17 := Joins.cell_of_block HLB1.out.k17 0
          have z16 := Joins.unfrozen_of_block HLB1.out.k16 0
          have z17 := Joins.unfrozen_of_block HLB1.out.k17 0
          simp at r16 r17
          have hord := HLB1.out.ord
          have hne : ¬ c16 = c17 := by omega
          have hne2 : ¬ c17 = c16 := by omega
          have HGS1 := Lib.hid (show GSt b t S F wb mb mm nn1b f1b nm1b g1b s ((u1.setCell ⟨c16, 0, none⟩ (.int .i64 sm1)).setCell ⟨c17, 0, none⟩ (.bool true)) from HGB1.out.keep (G := fun i => i = c16 ∨ i = c17) (Keeps.setCell (p := ⟨c17, 0, none⟩) (Keeps.setCell (p := ⟨c16, 0, none⟩) (Keeps.refl (fun i => i = c16 ∨ i = c17) u1) (fun _ => .inl rfl) _) (fun _ => .inr rfl) _) (fun i e => by
            have := HLB1.out.low
            have ho := HLB1.out.out i
            exact ⟨fun hF => by have := ho hF; omega, by omega, by omega, by omega⟩))
          have HLS1 := Lib.hid (HLB1.out.set sm1)
          have HKT1 := Lib.hid (Keeps.setCell (p := ⟨c17, 0, none⟩) (Keeps.setCell (p := ⟨c16, 0, none⟩) HKB1.out (fun _ => .inr (.inr (.inr (.inl rfl)))) (.int .i64 sm1)) (fun _ => .inr (.inr (.inr (.inr rfl)))) (.bool true))
          obtain ⟨Y1, hY⟩ : ∃ Y, Y = (u1.setCell ⟨c16, 0, none⟩ (.int .i64 sm1)).setCell ⟨c17, 0, none⟩ (.bool true) := ⟨_, rfl⟩
          rw [← hY] at HGS1 HLS1 HKT1
          have HY1 := Lib.hid hY
          clear hord hY
          by_cases hlt : sm1 < sm0
          · have q1 : decide ((sm1 : Int) < (sm0 : Int)) = true := decide_eq_true (by omega)
            have q2 : decide (sm1 < sm0) = true := decide_eq_true hlt
            have HSK1 := Lib.hid (show lookT (edgeT n s) add (kidT k1 T) (some sm0) = some sm1 from by rw [look_less HEB1.out.symm (by rw [HSM1.out]; exact hlt), HSM1.out])
            go_upto_region 8 with fail
            rw [← HY1.out]
            clear r16 r17 z16 z17
            go_wp2_with fail
            rw [rounds_succ]
            go_wp2_with fail
            go_end0
            refine ⟨rfl, nn1b, f1b, nm1b, g1b, HGS1.out, ?_, HKT1.out⟩
            rw [HSK0.out, HSK1.out]
            exact HLS1.out
          · have q1 : decide ((sm1 : Int) < (sm0 : Int)) = false := decide_eq_false (by omega)
            have q2 : decide (sm1 < sm0) = false := decide_eq_false hlt
            have HSK1 := Lib.hid (show lookT (edgeT n s) add (kidT k1 T) (some sm0) = (some sm0) from look_more HEB1.out.symm (by rw [HSM1.out]; exact hlt))
            go_wp2_with fail
            clear r16 r17 z16 z17
            rw [rounds_succ]
            go_wp2_with fail
            go_end0
            refine ⟨rfl, nn1b, f1b, nm1b, g1b, HGB1.out, ?_, HKB1.out⟩
            rw [HSK0.out, HSK1.out]
            exact HLB1.out
      · have q1 : decide ((sm0 : Int) < (m0 : Int)) = false := decide_eq_false (by omega)
        have q2 : decide (sm0 < m0) = false := decide_eq_false hlt
        have HSK0 := Lib.hid (show lookT (edgeT n s) add (kidT k0 T) (some m0) = (some m0) from look_more HEB0.out.symm (by rw [HSM0.out]; exact hlt))
        go_wp2_with fail
        clear r16 r17 z16 z17
        rw [rounds_succ]
        have e1 := HLB0.out.k5
        have e2 := HLB0.out.kid hk1
        have HC := Lib.hid (HEM.out b t S F wb mb nn0b f0b (kidT k1 T) (qAt q k1) u0.drew (HGB0.out.st.below (Below.refl _ u0).drew) ht (HDEN.out k1 hk1))
        have HCS := Lib.hid (show u0.drew.cell? ⟨c5, 0, none⟩ = some (.pointer (some ⟨wb, 0, none⟩)) ∧ u0.drew.cell? ⟨c15, k1, none⟩ = some (.int .i64 (qAt q k1)) from ⟨e1, e2⟩)
        have HKK := Lib.hid (show ∀ w', Keeps (fun i => i = wb ∨ i = mb) u0.drew w' → LSt B F wb mb mm q lv s c5 c7 c8 c9 c15 c16 c17 (some m0) w' from fun w' hk => (HLB0.out.below (Below.refl _ u0).drew).keep hk (fun i e => by have := HLB0.out.low; rcases e with e | e <;> omega))
        have HKS := Lib.hid (show ∀ w', Keeps (fun i => i = wb ∨ i = mb) u0.drew w' → w'.cell? ⟨c5, 0, none⟩ = some (.pointer (some ⟨wb, 0, none⟩)) ∧ w'.cell? ⟨c15, k1, none⟩ = some (.int .i64 (qAt q k1)) from fun w' hk => ⟨(HKK.out w' hk).k5, (HKK.out w' hk).kid hk1⟩)
        obtain ⟨eb, heb⟩ : ∃ eb, eb = emB (kidT k1 T) := ⟨_, rfl⟩
        rw [← heb] at HC
        have HEB1 := Lib.hid heb
        clear heb
        go_upto_region 4 with fail
        clear e1 e2
        go_region_held3 (fun w' => w'.cell? ⟨c5, 0, none⟩ = some (.pointer (some ⟨wb, 0, none⟩)) ∧ w'.cell? ⟨c15, k1, none⟩ = some (.int .i64 (qAt q k1))) (first | exact HCS.out | exact HKS.out _ (by assumption)) ((go_at_call 52; with_reducible refine HC.out.mono ?_; rintro e v1 ⟨rfl, nn1a, f1a, hst, hkp⟩))
        have HGA1 := Lib.hid ((HGB0.out.below (Below.refl _ u0).drew).empty hst hkp)
        have HLA1 := Lib.hid (HKK.out v1 hkp)
        have HKA1 := Lib.hid ((HKB0.out.drew).trans (hkp.mono (G := fun i => i = wb ∨ i = mb ∨ i = mm ∨ i = c16 ∨ i = c17) fun i _ e => by rcases e with e | e; exact .inl e; exact .inr (.inl e)) (fun _ _ e => e))
        clear hst hkp HC HCS HKK HKS
        cases eb with
        | true =>
          have HSK1 := Lib.hid (show lookT (edgeT n s) add (kidT k1 T) (some m0) = (some m0) from look_skip HEB1.out.symm)
          go_wp2_with fail
          rw [rounds_succ]
          go_wp2_with fail
          go_end0
          refine ⟨rfl, nn1a, f1a, nm0b, g0b, HGA1.out, ?_, HKA1.out⟩
          rw [HSK0.out, HSK1.out]
          exact HLA1.out
        | false =>
          obtain ⟨ev, hev⟩ : ∃ ev, ev = edgeT n s (kidT k1 T) := ⟨_, rfl⟩
          have hevb : ev ≤ 17592186044416 := by
            have h1 := edge_lt hs (full_kid HFULL.out k1) HEB1.out.symm
            rw [← hev] at h1
            have h2 : 2 ^ n ≤ 2 ^ 44 := Nat.pow_le_pow_right (by omega) (by omega)
            omega
          have HCE := HIH.out b t S F wb mb mm nn1a f1a nm0b g0b s (kidT k1 T) (qAt q k1) v1.drew hs (HGA1.out.below (Below.refl _ v1).drew) ht (HDEN.out k1 hk1) HEB1.out.symm
          rw [← hev] at HCE
          have HCE := Lib.hid HCE
          have HEV := Lib.hid hev
          have e1 := HLA1.out.k5
          have e2 := HLA1.out.kid hk1
          have e3 := HLA1.out.k7
          have e4 := HLA1.out.k8
          have e5 := HLA1.out.k9
          have HCS := Lib.hid (show v1.drew.cell? ⟨c5, 0, none⟩ = some (.pointer (some ⟨wb, 0, none⟩)) ∧ v1.drew.cell? ⟨c15, k1, none⟩ = some (.int .i64 (qAt q k1)) ∧ v1.drew.cell? ⟨c7, 0, none⟩ = some (.int .i64 lv) ∧ v1.drew.cell? ⟨c8, 0, none⟩ = some (.int .i64 s) ∧ v1.drew.cell? ⟨c9, 0, none⟩ = some (.map (some mm)) from ⟨e1, e2, e3, e4, e5⟩)
          have HKK := Lib.hid (show ∀ w', Keeps (fun i => i = wb ∨ i = mb ∨ i = mm) v1.drew w' → LSt B F wb mb mm q lv s c5 c7 c8 c9 c15 c16 c17 (some m0) w' from fun w' hk => (HLA1.out.below (Below.refl _ v1).drew).keep hk (fun i e => by have := HLA1.out.low; rcases e with e | e | e <;> omega))
          have HKS := Lib.hid (show ∀ w', Keeps (fun i => i = wb ∨ i = mb ∨ i = mm) v1.drew w' → w'.cell? ⟨c5, 0, none⟩ = some (.pointer (some ⟨wb, 0, none⟩)) ∧ w'.cell? ⟨c15, k1, none⟩ = some (.int .i64 (qAt q k1)) ∧ w'.cell? ⟨c7, 0, none⟩ = some (.int .i64 lv) ∧ w'.cell? ⟨c8, 0, none⟩ = some (.int .i64 s) ∧ w'.cell? ⟨c9, 0, none⟩ = some (.map (some mm)) from fun w' hk => ⟨(HKK.out w' hk).k5, (HKK.out w' hk).kid hk1, (HKK.out w' hk).k7, (HKK.out w' hk).k8, (HKK.out w' hk).k9⟩)
          clear e1 e2 e3 e4 e5 hev
          obtain ⟨sm1, hsm⟩ : ∃ sm, sm = add + ev := ⟨_, rfl⟩
          have hsI : (add : Int) + (ev : Int) = (sm1 : Int) := by omega
          have hws1 : IntKind.i64.wrap (sm1 : Int) = (sm1 : Int) := by rw [IntKind.wrap_i64]; omega
          have hwa1 : IntKind.i64.wrap ((add : Int) + (ev : Int)) = (sm1 : Int) := by rw [IntKind.wrap_i64]; omega
          have HSME1 := Lib.hid hsm
          clear hsm
          go_upto_region 5 with fail
          go_region_held3 (fun w' => w'.cell? ⟨c5, 0, none⟩ = some (.pointer (some ⟨wb, 0, none⟩)) ∧ w'.cell? ⟨c15, k1, none⟩ = some (.int .i64 (qAt q k1)) ∧ w'.cell? ⟨c7, 0, none⟩ = some (.int .i64 lv) ∧ w'.cell? ⟨c8, 0, none⟩ = some (.int .i64 s) ∧ w'.cell? ⟨c9, 0, none⟩ = some (.map (some mm))) (first | exact HCS.out | exact HKS.out _ (by assumption)) ((go_at_call 53; with_reducible refine HCE.out.mono ?_; rintro e u1 ⟨rfl, nn1b, f1b, nm1b, g1b, hst, hkp⟩))
          have HGB1 := Lib.hid hst
          have HLB1 := Lib.hid (HKK.out u1 hkp)
          have HKB1 := Lib.hid ((HKA1.out.drew).trans (hkp.mono (G := fun i => i = wb ∨ i = mb ∨ i = mm ∨ i = c16 ∨ i = c17) fun i _ e => by rcases e with e | e | e; exact .inl e; exact .inr (.inl e); exact .inr (.inr (.inl e))) (fun _ _ e => e))
          clear hst hkp HCE HCS HKK HKS
          have HSM1 := Lib.hid (show add + edgeT n s (kidT k1 T) = sm1 by rw [← HEV.out]; exact HSME1.out.symm)
          have r16 := Joins.cell_of_block HLB1.out.k16 0
          have r17 := Joins.cell_of_block HLB1.out.k17 0
          have z16 := Joins.unfrozen_of_block HLB1.out.k16 0
          have z17 := Joins.unfrozen_of_block HLB1.out.k17 0
          simp at r16 r17
          have hord := HLB1.out.ord
          have hne : ¬ c16 = c17 := by omega
          have hne2 : ¬ c17 = c16 := by omega
          have HGS1 := Lib.hid (show GSt b t S F wb mb mm nn1b f1b nm1b g1b s ((u1.setCell ⟨c16, 0, none⟩ (.int .i64 sm1)).setCell ⟨c17, 0, none⟩ (.bool true)) from HGB1.out.keep (G := fun i => i = c16 ∨ i = c17) (Keeps.setCell (p := ⟨c17, 0, none⟩) (Keeps.setCell (p := ⟨c16, 0, none⟩) (Keeps.refl (fun i => i = c16 ∨ i = c17) u1) (fun _ => .inl rfl) _) (fun _ => .inr rfl) _) (fun i e => by
            have := HLB1.out.low
            have ho := HLB1.out.out i
            exact ⟨fun hF => by have := ho hF; omega, by omega, by omega, by omega⟩))
          have HLS1 := Lib.hid (HLB1.out.set sm1)
          have HKT1 := Lib.hid (Keeps.setCell (p := ⟨c17, 0, none⟩) (Keeps.setCell (p := ⟨c16, 0, none⟩) HKB1.out (fun _ => .inr (.inr (.inr (.inl rfl)))) (.int .i64 sm1)) (fun _ => .inr (.inr (.inr (.inr rfl)))) (.bool true))
          obtain ⟨Y1, hY⟩ : ∃ Y, Y = (u1.setCell ⟨c16, 0, none⟩ (.int .i64 sm1)).setCell ⟨c17, 0, none⟩ (.bool true) := ⟨_, rfl⟩
          rw [← hY] at HGS1 HLS1 HKT1
          have HY1 := Lib.hid hY
          clear hord hY
          by_cases hlt : sm1 < m0
          · have q1 : decide ((sm1 : Int) < (m0 : Int)) = true := decide_eq_true (by omega)
            have q2 : decide (sm1 < m0) = true := decide_eq_true hlt
            have HSK1 := Lib.hid (show lookT (edgeT n s) add (kidT k1 T) (some m0) = some sm1 from by rw [look_less HEB1.out.symm (by rw [HSM1.out]; exact hlt), HSM1.out])
            go_upto_region 8 with fail
            rw [← HY1.out]
            clear r16 r17 z16 z17
            go_wp2_with fail
            rw [rounds_succ]
            go_wp2_with fail
            go_end0
            refine ⟨rfl, nn1b, f1b, nm1b, g1b, HGS1.out, ?_, HKT1.out⟩
            rw [HSK0.out, HSK1.out]
            exact HLS1.out
          · have q1 : decide ((sm1 : Int) < (m0 : Int)) = false := decide_eq_false (by omega)
            have q2 : decide (sm1 < m0) = false := decide_eq_false hlt
            have HSK1 := Lib.hid (show lookT (edgeT n s) add (kidT k1 T) (some m0) = (some m0) from look_more HEB1.out.symm (by rw [HSM1.out]; exact hlt))
            go_wp2_with fail
            clear r16 r17 z16 z17
            rw [rounds_succ]
            go_wp2_with fail
            go_end0
            refine ⟨rfl, nn1b, f1b, nm1b, g1b, HGB1.out, ?_, HKB1.out⟩
            rw [HSK0.out, HSK1.out]
            exact HLB1.out
end Go.Proofs.Ytdmamecfmfhlmaa
