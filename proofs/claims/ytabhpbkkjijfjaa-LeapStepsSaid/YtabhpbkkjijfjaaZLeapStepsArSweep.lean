/-
  arena.Sweep.
-/
import Derived.Test.YtabhpbkkjijfjaaZLeapSteps17
import Derived.Test.YtabhpbkkjijfjaaZLeapStepsArGive
namespace Go.Proofs.Ytabhpbkkjijfjaa
set_option maxRecDepth 100000
open Go.RowKit

theorem ArAt.find' {b : Nat} {S : ArS} {arr : Array Value} {v1 v3 : Value} {bm n : Nat} {fr : List Nat} {g : AKey → Option Nat} {vs : List Value} {w : World} {F : Nat → Prop} {lv : Nat} {X : Nat → Prop} (h : ArAt b S arr v1 v3 bm n fr g vs w F lv X) {i : Nat} {x : Ent} (hx : atL S.L i = some x) : findK S.L x.key = some i := (findK_iff h.ok).2 ⟨x, hx, rfl⟩
/-- The box of an entry. -/
def boxE (w : World) (x : Ent) : World := w.alloc (.cells #[.int .i64 x.k, .int .i64 x.a, .int .i64 x.b, .int .i64 x.c, .int .i64 x.d, .int .i64 x.lv, .int .i64 x.va, .int .u64 x.ma] 95)
theorem encL_none (L : List (Option Ent)) (i : Nat) : encL (L.set i (some zeroE)) = encL (L.set i none) := by
  unfold encL
  rw [List.flatMap_def, List.flatMap_def, List.map_set, List.map_set]; rfl
theorem ArAt.few_free {b : Nat} {S : ArS} {arr : Array Value} {v1 v3 : Value} {bm n : Nat} {fr : List Nat} {g : AKey → Option Nat} {vs : List Value} {w : World} {F : Nat → Prop} {lv : Nat} {X : Nat → Prop} (h : ArAt b S arr v1 v3 bm n fr g vs w F lv X) : fr.length < 999999 := by
  have h1 := h.nodup.length_le_of_subset (l₂ := List.range S.L.length) (fun i hi => List.mem_range.2 ((h.frees i).1 hi).2.1)
  rw [List.length_range] at h1
  have := h.ok.long; have := h.ok.room
  omega
def SwRel (b : Nat) (S : ArS) (F : Nat → Prop) (w : World) (k m : Nat) (ws : World) : Prop :=
  2 ≤ k ∧ k ≤ S.L.length ∧ m + liveL (sweptTo S.L k) = liveL S.L ∧ ∃ arr v1 v3 bm n fr g vs F', ArAt b { S with L := sweptTo S.L k } arr v1 v3 bm n fr g vs ws F' (liveL S.L) (fun _ => False) ∧ (∀ i, F' i → F i ∨ w.heap.size ≤ i) ∧ Keeps F w ws
theorem SwRel.drop {b : Nat} {S : ArS} {F : Nat → Prop} {w X w' : World} {k m : Nat} {x : Ent} {arr : Array Value} {v1 v3 v3' : Value} {bm n : Nat} {fr ys : List Nat} {g : AKey → Option Nat} {vs : List Value} {F' : Nat → Prop} (h2 : 2 ≤ k) (hk : k < S.L.length) (h3 : m + liveL (sweptTo S.L k) = liveL S.L)
    (hA : ArAt b { S with L := sweptTo S.L k } arr v1 v3 bm n fr g vs X F' (liveL S.L) (fun _ => False)) (hF : ∀ i, F' i → F i ∨ w.heap.size ≤ i) (hK : Keeps F w X)
    (hx : atL S.L k = some x) (h0 : x.ma = 0)
    (hlist : Row w' 95 8 v1 S.L.length (encL ((sweptTo S.L k).set k none))) (hmap : MapOf keyA GoodA w' bm n (delM (fun k => (g k).map idV) x.key))
    (hp : ys.Perm (fr ++ [k])) (hh : HeapN ys.length ys) (hN : NumsAt b 3 (arr.setIfInBounds 3 v3') 64 ys v3' w')
    (hv : ∀ q, v3'.ownBlock = some q → v3.ownBlock = some q ∨ X.heap.size ≤ q) (hk' : Keeps (fun k => k = b ∨ k = bm ∨ v1.ownBlock = some k ∨ v3.ownBlock = some k) X w') : SwRel b S F w (k + 1) (m + 1) w' := by
  have hx' : atL (sweptTo S.L k) k = some x := by rw [atL_some, sweptTo_get, if_neg (by omega)]; exact atL_some.1 hx
  have hD := ArAt.dropped hA hx' h0 (by rw [sweptTo_len]; exact hlist) hmap hp hh hN hv hk'
  have e : sweptTo S.L (k + 1) = (sweptTo S.L k).set k none := sweptTo_drop hx h0
  refine ⟨by omega, by omega, ?_, _, v1, v3', bm, n, ys, _, vs, _, by rw [e]; exact hD, fun i hi => ?_, hK.trans hk' fun i hi hh => ?_⟩
  · rw [e]
    have := live_drop hx'
    omega
  · rcases hi with hi | hi
    · exact hF i hi
    · rcases hv i hi with h1 | h1
      · exact hF i (hA.f3 i h1)
      · exact .inr (Nat.le_trans hK.size h1)
  · have hin : F' i := by
      rcases hh with rfl | rfl | h1 | h1
      · exact hA.fb
      · exact hA.fm
      · exact hA.f1 i h1
      · exact hA.f3 i h1
    rcases hF i hin with h1 | h1
    · exact h1
    · omega
theorem mask_zero (m : Nat) : (((m : Nat) : Int) == 0) = decide (m = 0) := by
  by_cases h : m = 0
  · subst h; rfl
  · rw [decide_eq_false h]; simp; omega
theorem SwRel.skip {b : Nat} {S : ArS} {F : Nat → Prop} {w ws ws' : World} {k m : Nat} (h : SwRel b S F w k m ws) (hk : k < S.L.length) (hs : S.L[k]?.map sweepO = S.L[k]?) (hb : Below ws.heap.size ws ws') : SwRel b S F w (k + 1) m ws' := by
  obtain ⟨h1, h2, h3, arr, v1, v3, bm, n, fr, g, vs, F', hA, hF, hK⟩ := h
  have e := sweptTo_keep hs
  refine ⟨by omega, by omega, by rw [e]; exact h3, arr, v1, v3, bm, n, fr, g, vs, F', by rw [e]; exact hA.keep (Keeps.of_below (F := fun _ => False) hb) (fun _ _ h => h), hF, hK.below hb⟩
set_option maxHeartbeats 4000000 in
set_option maxRecDepth 100000 in
theorem sweep_any (b : Nat) (S : ArS) (F : Nat → Prop) (w : World) (h : IsAr b S w F) : Calls Try.prog 76 #[.pointer (some ⟨b, 0, none⟩)] w fun e w' => e = .returned (.int .i64 (liveL S.L - liveL (sweptL S.L) : Int)) ∧ ∃ F', IsAr b (sweptA S) w' F' ∧ (∀ i, F' i → F i ∨ w.heap.size ≤ i) ∧ Keeps F w w' := by
  have hok := h.ok
  have hlong : S.L.length ≤ 200002 := by have := hok.long; have := hok.room; omega
  have hlive : liveL S.L ≤ 200000 := by have := hok.live; have := hok.room; omega
  have HR0 : Aside (SwRel b S F w 2 0 w) := by
    obtain ⟨arr, v1, v3, bm, n, fr, g, vs, hA⟩ := h
    refine ⟨Nat.le_refl _, hok.two, by rw [sweptTo_two hok]; omega, arr, v1, v3, bm, n, fr, g, vs, F, by rw [sweptTo_two hok]; exact hA, fun i hi => .inl hi, Keeps.refl _ _⟩
  clear h
  go_enter Try.func76, Try.ntmps76
  go_wp2_with fail
  go_loopw [3, 4, 5, 6, 7] (fun nv iv _ _ _ ws => ∃ k m : Nat, nv = .int .i64 m ∧ iv = .int .i64 k ∧ k ≤ S.L.length ∧ Aside (SwRel b S F w k m ws)) (fun _ iv _ _ _ _ => S.L.length - (intOf iv).toNat)
  case atStart => exact ⟨2, 0, rfl, rfl, hok.two, HR0⟩
  case round =>
    obtain ⟨k, m, rfl, rfl, hkl, HR⟩ := hrel
    obtain ⟨r1, r2, r3, arr, v1, v3, bm, n, fr, g, vs, F', hA, hF, hK⟩ := id HR.out
    obtain ⟨q, o, c, hv1, hFq, hqb, hent⟩ := hA.ents
    have c1 : wr.cell? ⟨b, 1, none⟩ = some (.slice (some ⟨q, o, none⟩) S.L.length c) := by
      have := (hA.cell 1).trans hA.c1
      rw [hv1, sweptTo_len] at this; exact this
    obtain ⟨N, hN⟩ : ∃ N, N = S.L.length := ⟨_, rfl⟩
    rw [← hN] at c1 hkl hlong
    have hmb : m ≤ 200000 := by omega
    by_cases hk : k < N
    · have hkS : k + 1 ≤ S.L.length := by omega
      have hu : ∃ u, S.L[k]? = some u := ⟨_, List.getElem?_eq_getElem (by omega)⟩
      obtain ⟨u, hu⟩ := hu
      have hu' : (sweptTo S.L k)[k]? = some u := by rw [sweptTo_get, if_neg (by omega)]; exact hu
      obtain ⟨x, hx⟩ : ∃ x, x = u.getD zeroE := ⟨_, rfl⟩
      have hgx : GoodA x.key := by
        rw [hx]
        cases u with
        | none => exact ⟨by show I64 0; unfold I64; omega, by show I64 0; unfold I64; omega, by show I64 0; unfold I64; omega, by show I64 0; unfold I64; omega, by show I64 0; unfold I64; omega⟩
        | some y => exact (hA.good k y (by rw [atL_some]; exact hu')).1
      have e0 := hent k u hu' 0 (by omega)
      have e1 := hent k u hu' 1 (by omega)
      have e2 := hent k u hu' 2 (by omega)
      have e3 := hent k u hu' 3 (by omega)
      have e4 := hent k u hu' 4 (by omega)
      have e5 := hent k u hu' 5 (by omega)
      have e6 := hent k u hu' 6 (by omega)
      have e7 := hent k u hu' 7 (by omega)
      simp only [encO, ← hx, encEnt, List.getElem?_cons_zero, List.getElem?_cons_succ, Nat.add_zero] at e0 e1 e2 e3 e4 e5 e6 e7
      obtain ⟨X, hXe⟩ : ∃ X, X = boxE wr x := ⟨_, rfl⟩
      have hbX : Below wr.heap.size wr X := by rw [hXe]; exact (Below.refl _ _).alloc (Nat.le_refl _) _
      have hzX : X.heap.size = wr.heap.size + 1 := by rw [hXe]; simp [boxE]
      have hbx0 : X.heap[wr.heap.size]? = some (.cells #[.int .i64 x.k, .int .i64 x.a, .int .i64 x.b, .int .i64 x.c, .int .i64 x.d, .int .i64 x.lv, .int .i64 x.va, .int .u64 x.ma] 95 (0, 0)) := by rw [hXe]; exact blk_last wr _ rfl
      have hAX := hA.keep (Keeps.of_below (F := fun _ => False) hbX) (fun _ _ h => h)
      have d2 : X.cell? ⟨b, 2, none⟩ = some (.map (some bm)) := (hAX.cell 2).trans hAX.c2
      have hlook := fun p => (hAX.keep ((Keeps.refl (fun _ => False) X).drewN p) (fun _ _ h => h)).look x.key hgx
      have f0 := Joins.cell_of_block hbx0 0
      have f1 := Joins.cell_of_block hbx0 1
      have f2 := Joins.cell_of_block hbx0 2
      have f3 := Joins.cell_of_block hbx0 3
      have f4 := Joins.cell_of_block hbx0 4
      simp at f0 f1 f2 f3 f4
      obtain ⟨atn, hat⟩ : ∃ a, a = (findK (sweptTo S.L k) x.key).getD 0 := ⟨_, rfl⟩
      obtain ⟨okb, hokb⟩ : ∃ a, a = (findK (sweptTo S.L k) x.key).isSome := ⟨_, rfl⟩
      unfold keyA Ent.key at hlook
      rw [show findK (sweptTo S.L k) (x.k, x.a, x.b, x.c, x.d) = findK (sweptTo S.L k) x.key from rfl, ← hat, ← hokb] at hlook
      simp only at hlook
      obtain ⟨xk, hxk⟩ : ∃ y, y = x.k := ⟨_, rfl⟩
      obtain ⟨xa, hxa⟩ : ∃ y, y = x.a := ⟨_, rfl⟩
      obtain ⟨xb, hxb⟩ : ∃ y, y = x.b := ⟨_, rfl⟩
      obtain ⟨xc, hxc⟩ : ∃ y, y = x.c := ⟨_, rfl⟩
      obtain ⟨xd, hxd⟩ : ∃ y, y = x.d := ⟨_, rfl⟩
      obtain ⟨xl, hxl⟩ : ∃ y, y = x.lv := ⟨_, rfl⟩
      obtain ⟨xv, hxv⟩ : ∃ y, y = x.va := ⟨_, rfl⟩
      obtain ⟨xm, hxm⟩ : ∃ y, y = x.ma := ⟨_, rfl⟩
      unfold boxE at hXe
      rw [← hxk] at e0 f0 hlook
      rw [← hxa] at e1 f1 hlook
      rw [← hxb] at e2 f2 hlook
      rw [← hxc] at e3 f3 hlook
      rw [← hxd] at e4 f4 hlook
      rw [← hxl] at e5
      rw [← hxv] at e6
      rw [← hxm] at e7
      rw [← hxk, ← hxa, ← hxb, ← hxc, ← hxd, ← hxl, ← hxv, ← hxm] at hXe hbx0
      have HXE := Lib.hid hXe
      have HU := Lib.hid hu
      have HU' := Lib.hid hu'
      have HX := Lib.hid hx
      have HAT := Lib.hid hat
      have HOK := Lib.hid hokb
      have HBX := Lib.hid hbX
      have HA := Lib.hid hAX
      have HB0 := Lib.hid hbx0
      have HE := Lib.hid (show x = ⟨xk, xa, xb, xc, xd, xl, xv, xm⟩ by rw [hxk, hxa, hxb, hxc, hxd, hxl, hxv, hxm])
      have HNN := Lib.hid hN
      have HZX := Lib.hid hzX
      have t1 : decide ((k : Int) < (N : Int)) = true := decide_eq_true (by omega)
      have t2 : decide (k < N) = true := decide_eq_true hk
      clear hXe hu hu' hx hat hokb hbX hAX hbx0 hN hxk hxa hxb hxc hxd hxl hxv hxm hA hent hv1 hzX r1 r2 r3 hgx
      go_upto_region 8 with fail
      rw [← HXE.out]
      go_quiet (fail)
      obtain ⟨X1, hX1⟩ : ∃ Y, Y = X.drewN nq := ⟨_, rfl⟩
      rw [← hX1]
      have hA1 := (HA.out.keep ((Keeps.refl (fun _ => False) X).drewN nq) (fun _ _ h => h))
      rw [← hX1] at hA1
      have hbX1 : X1.heap[wr.heap.size]? = some (.cells #[.int .i64 xk, .int .i64 xa, .int .i64 xb, .int .i64 xc, .int .i64 xd, .int .i64 xl, .int .i64 xv, .int .u64 xm] 95 (0, 0)) := by rw [hX1]; exact HB0.out
      have hB1 : Below wr.heap.size wr X1 := by
        rw [hX1]
        have h := HBX.out
        exact ⟨h.os, h.tape, h.output, h.size, h.block⟩
      have HA1 := Lib.hid hA1
      have HB1 := Lib.hid hB1
      have HC1 := Lib.hid hbX1
      have f7 := Joins.cell_of_block hbX1 7
      simp at f7
      clear hX1 hA1 hB1 hbX1 hlook f0 f1 f2 f3 f4 d2 e0 e1 e2 e3 e4 e5 e6 e7 c1
      by_cases hdo : xm = 0 ∧ okb = true ∧ atn = k
      · obtain ⟨rfl, rfl, rfl⟩ := hdo
        have HA1' := HA1.out
        obtain ⟨y, hy⟩ : ∃ y, u = some y := by
          cases hu : u with
          | none =>
            have hf := HOK.out.symm
            have hg := HAT.out.symm
            cases hfk : findK (sweptTo S.L atn) x.key with
            | none => rw [hfk] at hf; cases hf
            | some j =>
              rw [hfk] at hg
              have hj : j = atn := hg
              obtain ⟨z, hz, _⟩ := (findK_iff HA1'.ok).1 hfk
              rw [hj, atL, HU'.out, hu] at hz
              cases hz
          | some y => exact ⟨y, rfl⟩
        have hxy : x = y := by rw [HX.out, hy]; rfl
        have hxat : atL S.L atn = some x := by rw [atL_some, hxy, ← hy]; exact HU.out
        have hxat' : atL (sweptTo S.L atn) atn = some x := by rw [atL_some, hxy, ← hy]; exact HU'.out
        have hgx : GoodA x.key := (HA1'.good atn x hxat').1
        obtain ⟨Y, hdel, hMY, hKY, hZY⟩ := MapOf.del key_keyed (ty := 0) (t := 58) (e := 3) Try.underlying58 (HA1'.map.keep (w' := X1.drew) rfl) hgx
        rw [HE.out] at hdel
        unfold keyA Ent.key at hdel
        simp only at hdel
        have hKY1 : Keeps (fun i => i = bm) X1 Y := (Keeps.refl (fun i => i = bm) X1).drew.trans hKY (fun _ _ h => h)
        obtain ⟨q1, o1, c1', hv1, hFq1, hqb1, hent1⟩ := HA1'.ents
        have hlen1 := sweptTo_len S.L atn
        have hmq : q1 ≠ bm := fun e => map_apart HA1'.map HA1'.list (by rw [← e, hv1]; rfl)
        have hbm : b ≠ bm := fun e => HA1'.nm e.symm
        have hyb : Y.heap[b]? = some (.cells arr 64 (0, 0)) := (hKY1.block b (lt_of_block HA1'.own) hbm).trans HA1'.own
        have k2 : X1.cell? ⟨b, 2, none⟩ = some (.map (some bm)) := (HA1'.cell 2).trans HA1'.c2
        have k1 : Y.cell? ⟨b, 1, none⟩ = some (.slice (some ⟨q1, o1, none⟩) N c1') := by
          rw [Joins.cell_of_block hyb 1, HA1'.c1, hv1, hlen1, HNN.out]
        have hlY : Row Y 95 8 v1 (sweptTo S.L atn).length (encL (sweptTo S.L atn)) := HA1'.list.keep fun g hg => hKY1.block g (HA1'.list.lt g hg) (fun e => by rw [e] at hg; exact map_apart HA1'.map HA1'.list hg)
        rw [hv1] at hlY
        have ff : ∀ j, Y.frozen? ⟨q1, j, none⟩ = false := fun j => row_frozen hlY j
        have hz : ∀ j, j < 8 → Y.cell? ⟨q1, o1 + atn * 8 + j, none⟩ = (encO u)[j]? := fun j hj => (hKY1.cell (p := ⟨q1, o1 + atn * 8 + j, none⟩) (HA1'.list.lt q1 (by rw [hv1]; rfl)) hmq).trans (hent1 atn u HU'.out j hj)
        have m0 := hz 0 (by omega)
        have m1 := hz 1 (by omega)
        have m2 := hz 2 (by omega)
        have m3 := hz 3 (by omega)
        have m4 := hz 4 (by omega)
        have m5 := hz 5 (by omega)
        have m6 := hz 6 (by omega)
        have m7 := hz 7 (by omega)
        rw [hy, ← hxy, HE.out] at m0 m1 m2 m3 m4 m5 m6 m7
        simp only [encO, Option.getD_some, encEnt, List.getElem?_cons_zero, List.getElem?_cons_succ, Nat.add_zero] at m0 m1 m2 m3 m4 m5 m6 m7
        have p0 := Joins.cell_of_block HC1.out 0
        have p1 := Joins.cell_of_block HC1.out 1
        have p2 := Joins.cell_of_block HC1.out 2
        have p3 := Joins.cell_of_block HC1.out 3
        have p4 := Joins.cell_of_block HC1.out 4
        simp at p0 p1 p2 p3 p4
        have hkW := fun (k0 k1 k2 k3 k4 k5 k6 k7 : Value) => keeps_ent (G := fun j => j = q1) (w := Y) (q := q1) (a := o1 + atn * 8) rfl k0 k1 k2 k3 k4 k5 k6 k7
        have HKW := Lib.hid hkW
        have HLY := Lib.hid hlY
        have HMY := Lib.hid hMY
        have HKY := Lib.hid hKY1
        have HYB := Lib.hid hyb
        have HMQ := Lib.hid hmq
        have HQB := Lib.hid hqb1
        have HV1 := Lib.hid hv1
        have HXA := Lib.hid hxat
        have HXB := Lib.hid hxat'
        clear hkW hlY hMY hKY hKY1 hyb hmq hqb1 hv1 hxat hxat' hent1 hz hlen1 hxy hZY HA1' hgx hFq1
        clear hy
        go_upto_region 10 with fail
        go_region
        go_wp2_with fail
        obtain ⟨W2, hW2⟩ : ∃ W, W = ((((((((Y.setCell ⟨q1, o1 + atn * 8, none⟩ (.int .i64 0)).setCell ⟨q1, o1 + atn * 8 + 1, none⟩ (.int .i64 0)).setCell ⟨q1, o1 + atn * 8 + 2, none⟩ (.int .i64 0)).setCell ⟨q1, o1 + atn * 8 + 3, none⟩ (.int .i64 0)).setCell ⟨q1, o1 + atn * 8 + 4, none⟩ (.int .i64 0)).setCell ⟨q1, o1 + atn * 8 + 5, none⟩ (.int .i64 0)).setCell ⟨q1, o1 + atn * 8 + 6, none⟩ (.int .i64 0)).setCell ⟨q1, o1 + atn * 8 + 7, none⟩ (.int .u64 0)) := ⟨_, rfl⟩
        have hK2 : Keeps (fun j => j = q1) Y W2 := by rw [hW2]; exact HKW.out _ _ _ _ _ _ _ _
        have hR2 : Row W2 95 8 v1 S.L.length (encL ((sweptTo S.L atn).set atn none)) := by
          have h := row_ent HLY.out HU'.out 0 0 0 0 0 0 0
          rw [← hW2] at h
          rw [← encL_none, HV1.out]
          rw [sweptTo_len] at h
          rw [sweptTo_len]
          exact h
        have hM2 := HMY.out.keep (hK2.block bm HMY.out.lt (fun e => HMQ.out e.symm))
        have hfq : v3.ownBlock ≠ some q1 := fun e => rows_apart HA1.out.list HA1.out.free (by decide) (q := q1) (by rw [HV1.out]; rfl) e
        have hfm : v3.ownBlock ≠ some bm := map_apart HA1.out.map HA1.out.free
        have hN2 : NumsAt b 3 arr 64 fr v3 W2 := ⟨(hK2.block b (lt_of_block HYB.out) (fun e => HQB.out e.symm)).trans HYB.out, HA1.out.c3, HA1.out.free.keep fun g hg => (hK2.block g (Nat.lt_of_lt_of_le (HA1.out.free.lt g hg) HKY.out.size) (fun e => hfq (by rw [← e]; exact hg))).trans (HKY.out.block g (HA1.out.free.lt g hg) (fun e => hfm (by rw [← e]; exact hg))), HA1.out.n3⟩
        have HP := Lib.hid (hpush_any b 3 arr _ fr v3 atn W2 hN2 HA1.out.heap HA1.out.few_free)
        unfold numsI at HP
        have HR2 := Lib.hid hR2
        have HM2 := Lib.hid hM2
        have HK2 := Lib.hid hK2
        have HW2 := Lib.hid hW2
        clear hR2 hM2 hK2 hW2 hfq hfm hN2 p0 p1 p2 p3 p4 m0 m1 m2 m3 m4 m5 m6 m7 k1 k2 ff hdel
        rw [← HW2.out]
        refine HP.out.mono ?_
        rintro e w3 ⟨rfl, g3, o3, c3', ys, hp, hh, hN3, hg3, hK3⟩
        have hsz : X1.heap.size ≤ W2.heap.size := Nat.le_trans HKY.out.size HK2.out.size
        have hb3 := (hN3.own)
        have hq3 : v3.ownBlock ≠ some q1 := fun e => rows_apart HA1.out.list HA1.out.free (by decide) (q := q1) (by rw [HV1.out]; rfl) e
        have hm3 : v3.ownBlock ≠ some bm := map_apart HA1.out.map HA1.out.free
        have HSD : Aside (SwRel b S F w (atn + 1) (m + 1) w3) := by
          obtain ⟨r1, r2, r3, _⟩ := id HR.out
          refine SwRel.drop (X := X1) r1 (by rw [← HNN.out]; exact hk) r3 HA1.out hF (hK.below HB1.out) HXA.out (by rw [HE.out]) (HR2.out.keep fun g hg => ?_) (HM2.out.keep (hK3.block bm HM2.out.lt (fun e => ?_))) hp hh hN3 (fun g hg => ?_) ?_
          · rw [HV1.out] at hg
            have hgq : q1 = g := by simpa [Value.ownBlock] using hg
            subst hgq
            refine hK3.block q1 (HR2.out.lt q1 (by rw [HV1.out]; rfl)) (fun e => ?_)
            rcases e with e | e
            · exact HQB.out e
            · exact hq3 e
          · rcases e with e | e
            · exact HA1.out.nm e
            · exact hm3 e
          · have hgq : g3 = g := by simpa [Value.ownBlock] using hg
            subst hgq
            rcases hg3 with h | h
            · exact .inl h
            · exact .inr (by omega)
          · refine ((HKY.out.mono fun i _ e => ?_).trans HK2.out (fun i _ e => ?_)).trans hK3 (fun i _ e => ?_)
            · exact .inr (.inl e)
            · exact .inr (.inr (.inl (by rw [HV1.out, e]; rfl)))
            · rcases e with e | e
              · exact .inl e
              · exact .inr (.inr (.inr e))
        clear hp hh hN3 hg3 hK3 hsz hb3 hq3 hm3
        go_wp2_with fail
        refine ⟨⟨atn + 1, m + 1, by go_num, by go_num, hkS, HSD⟩, by simp [intOf]; omega⟩
      · have hskip : S.L[k]?.map sweepO = S.L[k]? := by
          rw [HU.out]
          cases hu : u with
          | none => rfl
          | some y =>
            have hxy : x = y := by rw [HX.out, hu]; rfl
            have hm : y.ma ≠ 0 := fun e0 => hdo (by
              have hf := HA.out.find' (i := k) (x := x) (by rw [atL_some, hxy, ← hu]; exact HU'.out)
              refine ⟨by rw [← hxy, HE.out] at e0; exact e0, by rw [HOK.out, hf]; rfl, by rw [HAT.out, hf]; rfl⟩)
            show some (sweepO (some y)) = _
            simp [sweepO, hm]
        have HSK := Lib.hid (SwRel.skip HR.out (by rw [← HNN.out]; exact hk) hskip HB1.out)
        clear hskip
        by_cases hm : xm = 0
        · subst hm
          cases okb with
          | false =>
            go_wp2_with fail
            refine ⟨⟨k + 1, m, rfl, by go_num, hkS, HSK.out⟩, by simp [intOf]; omega⟩
          | true =>
            have g1 : ((atn : Int) == (k : Int)) = false := by
              have : atn ≠ k := fun e => hdo ⟨rfl, rfl, e⟩
              simp; omega
            have g2 : (atn == k) = false := by
              have : atn ≠ k := fun e => hdo ⟨rfl, rfl, e⟩
              simpa using this
            clear hdo
            go_wp2_with fail
            refine ⟨⟨k + 1, m, rfl, by go_num, hkS, HSK.out⟩, by simp [intOf]; omega⟩
        · have g1 : ((xm : Int) == 0) = false := by simp; omega
          have g2 : (xm == 0) = false := by simpa using hm
          clear hdo
          go_wp2_with fail
          refine ⟨⟨k + 1, m, rfl, by go_num, hkS, HSK.out⟩, by simp [intOf]; omega⟩
    · have t1 : decide ((k : Int) < (N : Int)) = false := decide_eq_false (by omega)
      have t2 : decide (k < N) = false := decide_eq_false hk
      have hkN : k = S.L.length := by omega
      have hall : sweptTo S.L k = sweptL S.L := by rw [hkN]; exact sweptTo_all _
      rw [hall] at r3 hA
      have c7 := (hA.cell 196).trans hA.c7
      have f7 : wr.frozen? ⟨b, 196, none⟩ = false := Joins.unfrozen_of_block hA.own 196
      obtain ⟨l0, hl0⟩ : ∃ l, l = liveL S.L := ⟨_, rfl⟩
      obtain ⟨l1, hl1⟩ : ∃ l, l = liveL (sweptL S.L) := ⟨_, rfl⟩
      rw [← hl0] at c7
      rw [← hl0, ← hl1] at r3
      have hI : (l0 : Int) - (m : Int) = (l1 : Int) := by omega
      have hm : (m : Int) = (l0 : Int) - (l1 : Int) := by omega
      have HM := Lib.hid (show (m : Int) = (liveL S.L : Int) - (liveL (sweptL S.L) : Int) by rw [← hl0, ← hl1]; exact hm)
      have hA7 := hA.counted (lv' := l1)
      have hK7 := hK.setCell (p := ⟨b, 196, none⟩) (fun hb => by
        have hb' : b < w.heap.size := hb
        rcases hF b hA.fb with h | h
        · exact h
        · omega) (.int .i64 l1)
      have HF := Lib.hid (show IsAr b (sweptA S) (wr.setCell ⟨b, 196, none⟩ (.int .i64 l1)) F' from ⟨arr.setIfInBounds 196 (.int .i64 l1), v1, v3, bm, n, fr, g, vs, by rw [hl1] at hA7 ⊢; exact hA7⟩)
      have HK7 := Lib.hid hK7
      have HF' := Lib.hid hF
      have hb1 : m ≤ 200000 := by omega
      have hb2 : l0 ≤ 200000 := by omega
      clear hA hA7 hK7 hent hm hl0 hl1 r3 hkN hall r1 r2 hv1 hF hlive hN
      go_wp2_with fail
      go_ret
      refine ⟨by rw [HM.out]; rfl, F', HF.out, HF'.out, HK7.out⟩
theorem sweepOk : SweepOk := fun b S F w h => (sweep_any b S F w h).mono fun _ _ ⟨h1, h2⟩ => ⟨⟨_, h1⟩, h2⟩
end Go.Proofs.Ytabhpbkkjijfjaa
