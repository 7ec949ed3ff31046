/-
  quad's build.
-/
import Derived.LoopN
import Derived.Test.YtabhpbkkjijfjaaZLeapSteps24
import Derived.Test.YtabhpbkkjijfjaaZLeapSteps2
namespace Go.Proofs.Ytabhpbkkjijfjaa
set_option maxRecDepth 100000
open Go.RowKit

theorem infoCellQ : (Try.prog.info? 39).map (fun i => (i.zero, i.size, i.bytes)) = some (some (.agg #[.int .i64 0, .int .i64 0]), 2, 16) := by kernel_rfl
/-- Behind some rounds of build's second loop. -/
structure BS (U : Th → Prop) (w W1 : World) (F : Nat → Prop) (hb b t : Nat) (ty : TypeId) (rest : Option Value) (S0 : ArS) (bad : Int) (Qb : Nat) (S1 : ArS) (b1 : Int) (F1 : Nat → Prop) (cost : Nat) (q : Four) (W : World) : Prop where
  st : HState w F hb b t ty rest S1 b1 F1 W
  far : ∀ i, F1 i → F i ∨ W1.heap.size ≤ i
  res : Res U t S0 S1 bad b1 cost
  loc : ∀ i, w.heap.size ≤ i → i < W1.heap.size → i ≠ Qb → W.heap[i]? = W1.heap[i]?
  blk : W.heap[Qb]? = some (.cells #[.int .i64 q.1, .int .i64 q.2.1, .int .i64 q.2.2.1, .int .i64 q.2.2.2] 72 (0, 0))
  q64 : I64 q.1 ∧ I64 q.2.1 ∧ I64 q.2.2.1 ∧ I64 q.2.2.2
  size : W1.heap.size ≤ W.heap.size
  new : w.heap.size ≤ Qb ∧ Qb < W1.heap.size
  lt : ∀ i, F i → i < w.heap.size
  out : ¬ F hb ∧ hb < w.heap.size
section
variable {w W1 W : World} {F F1 : Nat → Prop} {hb b t : Nat} {ty : TypeId} {rest : Option Value} {S0 S1 : ArS} {bad b1 : Int} {Qb cost : Nat} {q : Four}
theorem BS.free {U : Th → Prop} (h : BS U w W1 F hb b t ty rest S0 bad Qb S1 b1 F1 cost q W) {i : Nat} (h1 : w.heap.size ≤ i) (h2 : i < W1.heap.size) : ¬ F1 i ∧ i ≠ hb := by
  refine ⟨fun e => ?_, fun e => ?_⟩
  · rcases h.far i e with h3 | h3
    · have := h.lt i h3; omega
    · omega
  · have := h.out.2; omega
theorem BS.hand {U : Th → Prop} (h : BS U w W1 F hb b t ty rest S0 bad Qb S1 b1 F1 cost q W) : ¬ F1 hb := h.st.out h.out.1 h.out.2
theorem BS.sl {U : Th → Prop} (h : BS U w W1 F hb b t ty rest S0 bad Qb S1 b1 F1 cost q W) {v : Value} {n : Nat} {xs : List Value} (hr : Row W1 39 2 v n xs) (hf : ∀ g, v.ownBlock = some g → w.heap.size ≤ g ∧ g ≠ Qb) (hn : n ≤ 4096) : IsSl W 2 16 v n xs :=
  (hr.keep fun g hg => h.loc g (hf g hg).1 (hr.lt g hg) (hf g hg).2).sl (by omega)
/-- A round: build has made a number, which is stored. -/
theorem BS.step {U : Th → Prop} (h : BS U w W1 F hb b t ty rest S0 bad Qb S1 b1 F1 cost q W) {S2 : ArS} {b2 : Int} {F2 : Nat → Prop} {w' : World} {k : Nat} {r : Int} {q' : Four} {j : Nat} (g1 : IsAr b S2 w' F2) (g2 : HandAt hb b t b2 ty rest w') (g3 : ∀ i, F2 i → F1 i ∨ W.heap.size ≤ i) (g4 : Keeps (fun i => F1 i ∨ i = hb) W w') (hres : Res U t S1 S2 b1 b2 k)
    (hq : (#[Value.int .i64 q.1, .int .i64 q.2.1, .int .i64 q.2.2.1, .int .i64 q.2.2.2]).setIfInBounds j (.int .i64 r) = #[.int .i64 q'.1, .int .i64 q'.2.1, .int .i64 q'.2.2.1, .int .i64 q'.2.2.2]) (h64 : I64 q'.1 ∧ I64 q'.2.1 ∧ I64 q'.2.2.1 ∧ I64 q'.2.2.2) :
    BS U w W1 F hb b t ty rest S0 bad Qb S2 b2 F2 (cost + k) q' (w'.setCell ⟨Qb, j, none⟩ (.int .i64 r)) := by
  have hfree := h.free h.new.1 h.new.2
  have hst : HState w F hb b t ty rest S2 b2 F2 w' := h.st.trans ⟨g1, g2, g3, g4⟩
  have hF2 : ∀ i, F2 i → F i ∨ W1.heap.size ≤ i := fun i hi => (g3 i hi).elim (h.far i) (fun h1 => .inr (Nat.le_trans h.size h1))
  have hQ2 : ¬ F2 Qb := fun e => by
    rcases hF2 Qb e with h1 | h1
    · have := h.lt _ h1; have := h.new.1; omega
    · have := h.new.2; omega
  have hQW : Qb < W.heap.size := lt_of_block h.blk
  refine ⟨⟨hst.1.keep (G := fun i => i = Qb) (Keeps.setCell (p := ⟨Qb, j, none⟩) (Keeps.refl (fun i => i = Qb) w') (fun _ => rfl) _) (fun i hi e => hQ2 (by rw [← e]; exact hi)), hst.2.1.other (fun e => hfree.2 e.symm) _, hst.2.2.1, hst.2.2.2.setCell (p := ⟨Qb, j, none⟩) (fun hp => absurd (show Qb < w.heap.size from hp) (by have := h.new.1; omega)) _⟩,
    hF2, h.res.trans hres, fun i i1 i2 i3 => ?_, ?_, h64, by simpa [World.setCell] using Nat.le_trans h.size g4.size, h.new, h.lt, h.out⟩
  · rw [Below.heap_setCell _ _ _ _ i3]
    obtain ⟨f1, f2⟩ := h.free i1 i2
    rw [g4.block i (Nat.lt_of_lt_of_le i2 h.size) (fun e => by rcases e with e | e; exact f1 e; exact f2 e)]
    exact h.loc i i1 i2 i3
  · have hb1 := (g4.block Qb hQW (fun e => by rcases e with e | e; exact hfree.1 e; exact hfree.2 e)).trans h.blk
    have := Joins.block_setCell (i := j) hb1 (.int .i64 r)
    rw [this, hq]
end
/-- build's contract, at one level. -/
def BuildOk (level : Nat) : Prop := ∀ (U : Th → Prop) (hb b t : Nat) (bad : Int) (ty : TypeId) (rest : Option Value) (S : ArS) (F : Nat → Prop) (l : CellL) (x y : Int) (a : Option Addr) (c : Nat) (w : World), IsAr b S w F → Wf S.L → HandAt hb b t bad ty rest w → ¬ F hb → t < 64 → (∀ T', Sub T' (buildT level x y l) → U (.sq T')) →
  Sl w 2 16 a l.length c (l.flatMap encCell) → (∀ z ∈ l, I64 z.1 ∧ I64 z.2) → -8796093022208 ≤ x → x + 2 ^ level ≤ 8796093022208 → -8796093022208 ≤ y → y + 2 ^ level ≤ 8796093022208 → l.length ≤ 4096 →
  Calls Try.prog 27 #[.pointer (some ⟨hb, 0, none⟩), .slice a l.length c, .int .i64 x, .int .i64 y, .int .i64 level] w (HMut w F hb b t ty rest fun S' bad' v => Made U t S bad (costB level x y l) level (buildT level x y l) S' bad' v)
set_option maxHeartbeats 2000000 in
theorem build_zero : BuildOk 0 := by
  intro U hb b t bad ty rest S F l x y a c w h wf hh hn ht hU hl hz x1 x2 y1 y2 hlen
  obtain ⟨n, hN⟩ : ∃ n, n = l.length := ⟨_, rfl⟩
  by_cases h0 : n = 0
  · have hnil : l = [] := List.eq_nil_of_length_eq_zero (by omega)
    subst hnil
    have HE := Lib.hid (empty_any (U := U) hb b t bad ty rest S F 0 w h wf hh hn ht (by omega) (fun k hk => absurd hk (Nat.not_lt_zero k)))
    clear h wf hh hl hz hN
    go_enter Try.func27, Try.ntmps27
    go_wp2_with fail
    refine HE.out.mono ?_
    rintro e w1 ⟨S1, b1, v, F1, rfl, hm, g1, g2, g3, g4⟩
    have HM := Lib.hid hm
    have HS : Aside (HState w F hb b t ty rest S1 b1 F1 w1) := ⟨g1, g2, g3, g4⟩
    clear hm g1 g2 g3 g4
    go_wp2_with fail
    go_ret
    exact ⟨S1, b1, _, F1, rfl, HM.out, HS.out.1, HS.out.2.1, HS.out.2.2.1, HS.out.2.2.2⟩
  · have hne : l.isEmpty = false := by
      cases l with
      | nil => exact absurd hN h0
      | cons z l => rfl
    have HH := Lib.hid h
    have HHH := Lib.hid hh
    have HWF := Lib.hid wf
    have HNE := Lib.hid hne
    rw [← hN]
    have t1 : ((n : Int) == 0) = false := by simpa using h0
    have t2 : (n == 0) = false := by simpa using h0
    clear h wf hh hl hz hne hN
    go_enter Try.func27, Try.ntmps27
    go_wp2_with fail
    go_ret
    refine ⟨S, bad, .int .i64 1, F, rfl, ⟨1, rfl, by unfold I64; omega, Res.refl HWF.out, fun _ => ?_⟩, HH.out, HHH.out, fun i hi => .inl hi, Keeps.refl _ _⟩
    show (1 : Int) = if (!l.isEmpty) = true then 1 else 0
    rw [HNE.out]; rfl
set_option maxHeartbeats 8000000 in
set_option maxRecDepth 100000 in
theorem build_succ (lev : Nat) (hlev : lev + 1 ≤ 43) (IH : BuildOk lev) : BuildOk (lev + 1) := by
  intro U hb b t bad ty rest S F l x y a c w h wf hh hn ht hU hl hz x1 x2 y1 y2 hlen
  obtain ⟨n, hN⟩ : ∃ n, n = l.length := ⟨_, rfl⟩
  obtain ⟨lv, hlv⟩ : ∃ lv, lv = lev + 1 := ⟨_, rfl⟩
  have hlvI : ((lev + 1 : Nat) : Int) = (lv : Int) := by omega
  by_cases h0 : n = 0
  · have hnil : l = [] := List.eq_nil_of_length_eq_zero (by omega)
    subst hnil
    have HE := Lib.hid (empty_any (U := U) hb b t bad ty rest S F (lev + 1) w h wf hh hn ht (by omega) (fun k hk => hU _ (show Sub _ (buildT (lev + 1) x y []) from sub_empty hk)))
    rw [hlvI] at HE ⊢
    clear h wf hh hl hz hN hlvI hlv
    go_enter Try.func27, Try.ntmps27
    go_wp2_with fail
    refine HE.out.mono ?_
    rintro e w1 ⟨S1, b1, v, F1, rfl, hm, g1, g2, g3, g4⟩
    have HM := Lib.hid hm
    have HS : Aside (HState w F hb b t ty rest S1 b1 F1 w1) := ⟨g1, g2, g3, g4⟩
    clear hm g1 g2 g3 g4
    go_wp2_with fail
    go_ret
    exact ⟨S1, b1, _, F1, rfl, HM.out, HS.out.1, HS.out.2.1, HS.out.2.2.1, HS.out.2.2.2⟩
  · have hne : l.isEmpty = false := by
      cases l with
      | nil => exact absurd hN h0
      | cons z l => rfl
    obtain ⟨q, o, rfl, hrow⟩ := hl.row (by omega)
    obtain ⟨m, hm⟩ : ∃ m : Nat, m = 2 ^ lev := ⟨_, rfl⟩
    have hm2 : (2 : Int) ^ lev = (m : Int) := by rw [hm, Int.natCast_pow]; rfl
    have hm3 : (2 : Int) ^ (lev + 1) = 2 * (m : Int) := by rw [Int.pow_succ, hm2]; omega
    rw [hm3] at x2 y2
    have hmb : m ≤ 8796093022208 := by
      have : 2 ^ lev ≤ 2 ^ 43 := Nat.pow_le_pow_right (by omega) (by omega)
      omega
    have hwr : IntKind.i64.wrap (2 ^ lev) = (m : Int) := by
      rw [hm2, IntKind.wrap_i64]; omega
    have hlI : (lv : Int) - 1 = (lev : Int) := by omega
    have hlz : ((lv : Int) == 0) = false := by simp; omega
    have hlz2 : (lv == 0) = false := by simp; omega
    rw [hlvI]
    have HH := Lib.hid h
    have HHH := Lib.hid hh
    have HWF := Lib.hid wf
    have HNE := Lib.hid hne
    have HL := Lib.hid hl
    have HZ := Lib.hid hz
    have HNN := Lib.hid hN
    have HROW := Lib.hid hrow
    have HIH := Lib.hid IH
    have hUn := hU
    rw [buildT_some hne hm2] at hUn
    have HUN := Lib.hid hUn
    clear hUn hU
    have HM2 := Lib.hid hm2
    have HLV := Lib.hid hlv
    have hhlt := hh.lt
    have hql : q < w.heap.size := HL.out.lt (by omega) (by omega)
    rw [← hN]
    have t1 : ((n : Int) == 0) = false := by simpa using h0
    have t2 : (n == 0) = false := by simpa using h0
    have hn4 : n ≤ 4096 := by omega
    have HP0 := Lib.hid (Parts.start (Below.refl w.heap.size w) (x + m) (y + m))
    clear h wf hh hl hz hne hN hrow IH hm hm2 hm3 hlvI hlv hlen
    go_enter Try.func27, Try.ntmps27
    go_wp2_with fail
    go_loopw [14, 15, 34] (fun _ _ iv ws => ∃ (k : Nat) (vs : List Value), iv = .int .i64 k ∧ k ≤ n ∧ Aside (Parts w.heap.size w (partsOf (x + m) (y + m) (l.take k)) vs ws)) (fun _ _ iv _ => n - (intOf iv).toNat)
    case atStart => exact ⟨0, _, rfl, Nat.zero_le _, by show Parts _ _ _ _ _; rw [List.take_zero]; exact HP0.out⟩
    case round =>
      obtain ⟨k, vs, rfl, hk, HP⟩ := hrel
      by_cases hkn : k < n
      · obtain ⟨⟨zx, zy⟩, hz⟩ : ∃ z, l[k]? = some z := ⟨_, List.getElem?_eq_getElem (by rw [← HNN.out]; exact hkn)⟩
        obtain ⟨i1, i2⟩ := HZ.out _ (List.mem_of_getElem? hz)
        simp only at i1 i2
        have hbw := HP.out.below
        have hrw := HROW.out.below hbw hql
        have e0 := hrw (k * 2 + 0) (.int .i64 zx) (by rw [flat_at (k := 2) (by omega) (fun z => rfl) l k 0 (zx, zy) hz (by omega)]; rfl)
        have e1 := hrw (k * 2 + 1) (.int .i64 zy) (by rw [flat_at (k := 2) (by omega) (fun z => rfl) l k 1 (zx, zy) hz (by omega)]; rfl)
        have e0' : wr.cell? ⟨q, o + k * 2, none⟩ = some (.int .i64 zx) := e0
        have e1' : wr.cell? ⟨q, o + k * 2 + 1, none⟩ = some (.int .i64 zy) := e1
        obtain ⟨X, hXe⟩ : ∃ X, X = wr.alloc (.cells #[.int .i64 zx, .int .i64 zy] 39 (0, 0)) := ⟨_, rfl⟩
        have hbX : Below wr.heap.size wr X := by rw [hXe]; exact (Below.refl _ _).alloc (Nat.le_refl _) _
        have hbx0 : X.heap[wr.heap.size]? = some (.cells #[.int .i64 zx, .int .i64 zy] 39 (0, 0)) := by rw [hXe]; exact blk_last wr _ rfl
        have hPX := HP.out.more hbX
        have f0 := Joins.cell_of_block hbx0 0
        have f1 := Joins.cell_of_block hbx0 1
        simp at f0 f1
        have htk : l.take (k + 1) = l.take k ++ [(zx, zy)] := by rw [List.take_add_one, hz]; rfl
        have hsn := partsOf_snoc (x + m) (y + m) (l.take k) (zx, zy)
        rw [← htk] at hsn
        have u1 : decide ((k : Int) < (n : Int)) = true := decide_eq_true (by omega)
        have u2 : decide (k < n) = true := decide_eq_true hkn
        have hPw : w.heap.size < wr.heap.size := lt_of_block HP.out.own
        have hI1 : -9223372036854775808 ≤ zx ∧ zx ≤ 9223372036854775807 := by unfold I64 at i1; omega
        have hI2 : -9223372036854775808 ≤ zy ∧ zy ≤ 9223372036854775807 := by unfold I64 at i2; omega
        have HXE := Lib.hid hXe
        have HPX := Lib.hid hPX
        have HSN := Lib.hid hsn
        have HBX0 := Lib.hid hbx0
        obtain ⟨i0, hi, hzz, hzs, hzb⟩ := info_parts infoCellQ
        have hvx : ∀ j, j < 4 → ∃ v, vs[j]? = some v := fun j hj => ⟨_, List.getElem?_eq_getElem (by rw [HP.out.len]; exact hj)⟩
        have HVX := Lib.hid hvx
        have hklen : (l.take k).length ≤ 4096 := by rw [List.length_take]; have := HNN.out; omega
        have HKL := Lib.hid hklen
        clear hXe hPX hsn hbx0 hbX hbw hrw e0 e1 htk i1 i2 hz hvx hklen
        by_cases hx : x + (m : Int) ≤ zx
        · by_cases hy : y + (m : Int) ≤ zy
          · skip
            have v1 : decide (zx ≥ x + (m : Int)) = true := decide_eq_true hx
            have v2 : decide (x + (m : Int) ≤ zx) = true := decide_eq_true hx
            have v3 : decide (zy ≥ y + (m : Int)) = true := decide_eq_true hy
            have v4 : decide (y + (m : Int) ≤ zy) = true := decide_eq_true hy
            have hqd : quadOf (x + m) (y + m) (zx, zy) = 3 := by unfold quadOf; rw [if_pos hx, if_pos hy]
            obtain ⟨v, hv⟩ := HVX.out 3 (by omega)
            have hp := partsOf_at (x + m) (y + m) (l.take k) (k := 3) (by omega)
            have hr := HPX.out.rows 3 v _ hv hp
            have hfr := HPX.out.fresh 3 v
            obtain ⟨va, vc, rfl, hvc, hcm, _⟩ := hr.form
            have c1 : X.cell? ⟨w.heap.size, 3, none⟩ = some (.slice va (partOf (x + m) (y + m) 3 (l.take k)).length vc) := by rw [Joins.cell_of_block HPX.out.own]; simpa using hv
            obtain ⟨pn, hpn⟩ : ∃ pn, pn = (partOf (x + m) (y + m) 3 (l.take k)).length := ⟨_, rfl⟩
            have hpn4 : pn ≤ 4096 := by rw [hpn]; exact Nat.le_trans (part_le _ _ _ _) HKL.out
            rw [← hpn] at c1 hr hvc
            have hr0 : Row (X.drew.alloc (.cells #[.int .i64 zx, .int .i64 zy] 39 (0, 0))) 39 2 (.slice va pn vc) pn ((partOf (x + m) (y + m) 3 (l.take k)).flatMap encCell) := hr.keep fun g hg => Below.heap_alloc X.drew _ g (hr.lt g hg)
            have hPne : some w.heap.size ≠ (Value.slice va pn vc).ownBlock := fun e => by have := hfr w.heap.size hv (by rw [← hpn]; exact e.symm); omega
            have hXl : w.heap.size < X.heap.size := lt_of_block HPX.out.own
            have H1 := Lib.hid hr0
            have H2 := Lib.hid hPne
            have HV := Lib.hid hv
            have HPP := Lib.hid hp
            have HPN := Lib.hid hpn
            have HQD := Lib.hid hqd
            clear hr0 hPne hv hp hr hfr hpn hqd hx hy
            go_upto_region 10 with fail
            rw [← HXE.out]
            go_upto_region 15 with fail
            go_region_law ((refine step_append_row _ rfl (.tmp 57) (.tmp 59) 24 rfl 39 i0 _ 2 16 Try.underlying24 hi hzz hzs hzb rfl (by omega) (.slice va pn vc) pn ((partOf (x + m) (y + m) 3 (l.take k)).flatMap encCell) rfl H1.out ⟨X.heap.size, 0, none⟩ 1 1 [.int .i64 zx, .int .i64 zy] rfl rfl (news_alloc X.drew _ _ rfl) (by simp [Value.oneCell']) (by omega) (by unfold maxLen; omega) (by omega) _ rfl ?_; intro g off cap w1 hrow hg hat; have d1 : w1.cell? ⟨w.heap.size, 3, none⟩ = some (.slice va pn vc) := (hg.cell_far (a := ⟨w.heap.size, 3, none⟩) (by simp; omega) H2.out).trans ((World.cell?_of_block (Below.heap_alloc X.drew _ w.heap.size hXl)).trans c1); have d2 : w1.frozen? ⟨w.heap.size, 3, none⟩ = false := (hg.frozen_far (a := ⟨w.heap.size, 3, none⟩) (by simp; omega) H2.out).trans ((World.frozen?_of_block (Below.heap_alloc X.drew _ w.heap.size hXl)).trans (Joins.unfrozen_of_block HPX.out.own 3))))
            all_goals
              have HA : Aside (Parts w.heap.size w (partsOf (x + m) (y + m) (l.take (k + 1))) (vs.set 3 (.slice (some ⟨g, off, none⟩) (pn + 1) cap)) (w1.setCell ⟨w.heap.size, 3, none⟩ (.slice (some ⟨g, off, none⟩) (pn + 1) cap))) := by
                show Parts _ _ _ _ _
                rw [HSN.out, HQD.out]
                refine Parts.app (c := (zx, zy)) ((HPX.out.more (Below.refl _ X).drew).more ((Below.refl _ X.drew).alloc (Nat.le_refl _) (.cells #[.int .i64 zx, .int .i64 zy] 39 (0, 0)))) (by rw [HPN.out]; exact HV.out) HPP.out (by rw [← HPN.out]; exact hrow) hg hat
              clear hrow hg hat
              go_wp2_with fail
              refine ⟨⟨k + 1, _, by go_num, hkn, HA⟩, by simp [intOf]; omega⟩
          · skip
            have v1 : decide (zx ≥ x + (m : Int)) = true := decide_eq_true hx
            have v2 : decide (x + (m : Int) ≤ zx) = true := decide_eq_true hx
            have v3 : decide (zy ≥ y + (m : Int)) = false := decide_eq_false hy
            have v4 : decide (y + (m : Int) ≤ zy) = false := decide_eq_false hy
            have hqd : quadOf (x + m) (y + m) (zx, zy) = 1 := by unfold quadOf; rw [if_pos hx, if_neg hy]
            obtain ⟨v, hv⟩ := HVX.out 1 (by omega)
            have hp := partsOf_at (x + m) (y + m) (l.take k) (k := 1) (by omega)
            have hr := HPX.out.rows 1 v _ hv hp
            have hfr := HPX.out.fresh 1 v
            obtain ⟨va, vc, rfl, hvc, hcm, _⟩ := hr.form
            have c1 : X.cell? ⟨w.heap.size, 1, none⟩ = some (.slice va (partOf (x + m) (y + m) 1 (l.take k)).length vc) := by rw [Joins.cell_of_block HPX.out.own]; simpa using hv
            obtain ⟨pn, hpn⟩ : ∃ pn, pn = (partOf (x + m) (y + m) 1 (l.take k)).length := ⟨_, rfl⟩
            have hpn4 : pn ≤ 4096 := by rw [hpn]; exact Nat.le_trans (part_le _ _ _ _) HKL.out
            rw [← hpn] at c1 hr hvc
            have hr0 : Row (X.drew.alloc (.cells #[.int .i64 zx, .int .i64 zy] 39 (0, 0))) 39 2 (.slice va pn vc) pn ((partOf (x + m) (y + m) 1 (l.take k)).flatMap encCell) := hr.keep fun g hg => Below.heap_alloc X.drew _ g (hr.lt g hg)
            have hPne : some w.heap.size ≠ (Value.slice va pn vc).ownBlock := fun e => by have := hfr w.heap.size hv (by rw [← hpn]; exact e.symm); omega
            have hXl : w.heap.size < X.heap.size := lt_of_block HPX.out.own
            have H1 := Lib.hid hr0
            have H2 := Lib.hid hPne
            have HV := Lib.hid hv
            have HPP := Lib.hid hp
            have HPN := Lib.hid hpn
            have HQD := Lib.hid hqd
            clear hr0 hPne hv hp hr hfr hpn hqd hx hy
            go_upto_region 10 with fail
            rw [← HXE.out]
            go_upto_region 15 with fail
            go_region_law ((refine step_append_row _ rfl (.tmp 57) (.tmp 59) 24 rfl 39 i0 _ 2 16 Try.underlying24 hi hzz hzs hzb rfl (by omega) (.slice va pn vc) pn ((partOf (x + m) (y + m) 1 (l.take k)).flatMap encCell) rfl H1.out ⟨X.heap.size, 0, none⟩ 1 1 [.int .i64 zx, .int .i64 zy] rfl rfl (news_alloc X.drew _ _ rfl) (by simp [Value.oneCell']) (by omega) (by unfold maxLen; omega) (by omega) _ rfl ?_; intro g off cap w1 hrow hg hat; have d1 : w1.cell? ⟨w.heap.size, 1, none⟩ = some (.slice va pn vc) := (hg.cell_far (a := ⟨w.heap.size, 1, none⟩) (by simp; omega) H2.out).trans ((World.cell?_of_block (Below.heap_alloc X.drew _ w.heap.size hXl)).trans c1); have d2 : w1.frozen? ⟨w.heap.size, 1, none⟩ = false := (hg.frozen_far (a := ⟨w.heap.size, 1, none⟩) (by simp; omega) H2.out).trans ((World.frozen?_of_block (Below.heap_alloc X.drew _ w.heap.size hXl)).trans (Joins.unfrozen_of_block HPX.out.own 1))))
            all_goals
              have HA : Aside (Parts w.heap.size w (partsOf (x + m) (y + m) (l.take (k + 1))) (vs.set 1 (.slice (some ⟨g, off, none⟩) (pn + 1) cap)) (w1.setCell ⟨w.heap.size, 1, none⟩ (.slice (some ⟨g, off, none⟩) (pn + 1) cap))) := by
                show Parts _ _ _ _ _
                rw [HSN.out, HQD.out]
                refine Parts.app (c := (zx, zy)) ((HPX.out.more (Below.refl _ X).drew).more ((Below.refl _ X.drew).alloc (Nat.le_refl _) (.cells #[.int .i64 zx, .int .i64 zy] 39 (0, 0)))) (by rw [HPN.out]; exact HV.out) HPP.out (by rw [← HPN.out]; exact hrow) hg hat
              clear hrow hg hat
              go_wp2_with fail
              refine ⟨⟨k + 1, _, by go_num, hkn, HA⟩, by simp [intOf]; omega⟩
        · by_cases hy : y + (m : Int) ≤ zy
          · skip
            have v1 : decide (zx ≥ x + (m : Int)) = false := decide_eq_false hx
            have v2 : decide (x + (m : Int) ≤ zx) = false := decide_eq_false hx
            have v3 : decide (zy ≥ y + (m : Int)) = true := decide_eq_true hy
            have v4 : decide (y + (m : Int) ≤ zy) = true := decide_eq_true hy
            have hqd : quadOf (x + m) (y + m) (zx, zy) = 2 := by unfold quadOf; rw [if_neg hx, if_pos hy]
            obtain ⟨v, hv⟩ := HVX.out 2 (by omega)
            have hp := partsOf_at (x + m) (y + m) (l.take k) (k := 2) (by omega)
            have hr := HPX.out.rows 2 v _ hv hp
            have hfr := HPX.out.fresh 2 v
            obtain ⟨va, vc, rfl, hvc, hcm, _⟩ := hr.form
            have c1 : X.cell? ⟨w.heap.size, 2, none⟩ = some (.slice va (partOf (x + m) (y + m) 2 (l.take k)).length vc) := by rw [Joins.cell_of_block HPX.out.own]; simpa using hv
            obtain ⟨pn, hpn⟩ : ∃ pn, pn = (partOf (x + m) (y + m) 2 (l.take k)).length := ⟨_, rfl⟩
            have hpn4 : pn ≤ 4096 := by rw [hpn]; exact Nat.le_trans (part_le _ _ _ _) HKL.out
            rw [← hpn] at c1 hr hvc
            have hr0 : Row (X.drew.alloc (.cells #[.int .i64 zx, .int .i64 zy] 39 (0, 0))) 39 2 (.slice va pn vc) pn ((partOf (x + m) (y + m) 2 (l.take k)).flatMap encCell) := hr.keep fun g hg => Below.heap_alloc X.drew _ g (hr.lt g hg)
            have hPne : some w.heap.size ≠ (Value.slice va pn vc).ownBlock := fun e => by have := hfr w.heap.size hv (by rw [← hpn]; exact e.symm); omega
            have hXl : w.heap.size < X.heap.size := lt_of_block HPX.out.own
            have H1 := Lib.hid hr0
            have H2 := Lib.hid hPne
            have HV := Lib.hid hv
            have HPP := Lib.hid hp
            have HPN := Lib.hid hpn
            have HQD := Lib.hid hqd
            clear hr0 hPne hv hp hr hfr hpn hqd hx hy
            go_upto_region 10 with fail
            rw [← HXE.out]
            go_upto_region 15 with fail
            go_region_law ((refine step_append_row _ rfl (.tmp 57) (.tmp 59) 24 rfl 39 i0 _ 2 16 Try.underlying24 hi hzz hzs hzb rfl (by omega) (.slice va pn vc) pn ((partOf (x + m) (y + m) 2 (l.take k)).flatMap encCell) rfl H1.out ⟨X.heap.size, 0, none⟩ 1 1 [.int .i64 zx, .int .i64 zy] rfl rfl (news_alloc X.drew _ _ rfl) (by simp [Value.oneCell']) (by omega) (by unfold maxLen; omega) (by omega) _ rfl ?_; intro g off cap w1 hrow hg hat; have d1 : w1.cell? ⟨w.heap.size, 2, none⟩ = some (.slice va pn vc) := (hg.cell_far (a := ⟨w.heap.size, 2, none⟩) (by simp; omega) H2.out).trans ((World.cell?_of_block (Below.heap_alloc X.drew _ w.heap.size hXl)).trans c1); have d2 : w1.frozen? ⟨w.heap.size, 2, none⟩ = false := (hg.frozen_far (a := ⟨w.heap.size, 2, none⟩) (by simp; omega) H2.out).trans ((World.frozen?_of_block (Below.heap_alloc X.drew _ w.heap.size hXl)).trans (Joins.unfrozen_of_block HPX.out.own 2))))
            all_goals
              have HA : Aside (Parts w.heap.size w (partsOf (x + m) (y + m) (l.take (k + 1))) (vs.set 2 (.slice (some ⟨g, off, none⟩) (pn + 1) cap)) (w1.setCell ⟨w.heap.size, 2, none⟩ (.slice (some ⟨g, off, none⟩) (pn + 1) cap))) := by
                show Parts _ _ _ _ _
                rw [HSN.out, HQD.out]
                refine Parts.app (c := (zx, zy)) ((HPX.out.more (Below.refl _ X).drew).more ((Below.refl _ X.drew).alloc (Nat.le_refl _) (.cells #[.int .i64 zx, .int .i64 zy] 39 (0, 0)))) (by rw [HPN.out]; exact HV.out) HPP.out (by rw [← HPN.out]; exact hrow) hg hat
              clear hrow hg hat
              go_wp2_with fail
              refine ⟨⟨k + 1, _, by go_num, hkn, HA⟩, by simp [intOf]; omega⟩
          · skip
            have v1 : decide (zx ≥ x + (m : Int)) = false := decide_eq_false hx
            have v2 : decide (x + (m : Int) ≤ zx) = false := decide_eq_false hx
            have v3 : decide (zy ≥ y + (m : Int)) = false := decide_eq_false hy
            have v4 : decide (y + (m : Int) ≤ zy) = false := decide_eq_false hy
            have hqd : quadOf (x + m) (y + m) (zx, zy) = 0 := by unfold quadOf; rw [if_neg hx, if_neg hy]
            obtain ⟨v, hv⟩ := HVX.out 0 (by omega)
            have hp := partsOf_at (x + m) (y + m) (l.take k) (k := 0) (by omega)
            have hr := HPX.out.rows 0 v _ hv hp
            have hfr := HPX.out.fresh 0 v
            obtain ⟨va, vc, rfl, hvc, hcm, _⟩ := hr.form
            have c1 : X.cell? ⟨w.heap.size, 0, none⟩ = some (.slice va (partOf (x + m) (y + m) 0 (l.take k)).length vc) := by rw [Joins.cell_of_block HPX.out.own]; simpa using hv
            obtain ⟨pn, hpn⟩ : ∃ pn, pn = (partOf (x + m) (y + m) 0 (l.take k)).length := ⟨_, rfl⟩
            have hpn4 : pn ≤ 4096 := by rw [hpn]; exact Nat.le_trans (part_le _ _ _ _) HKL.out
            rw [← hpn] at c1 hr hvc
            have hr0 : Row (X.drew.alloc (.cells #[.int .i64 zx, .int .i64 zy] 39 (0, 0))) 39 2 (.slice va pn vc) pn ((partOf (x + m) (y + m) 0 (l.take k)).flatMap encCell) := hr.keep fun g hg => Below.heap_alloc X.drew _ g (hr.lt g hg)
            have hPne : some w.heap.size ≠ (Value.slice va pn vc).ownBlock := fun e => by have := hfr w.heap.size hv (by rw [← hpn]; exact e.symm); omega
            have hXl : w.heap.size < X.heap.size := lt_of_block HPX.out.own
            have H1 := Lib.hid hr0
            have H2 := Lib.hid hPne
            have HV := Lib.hid hv
            have HPP := Lib.hid hp
            have HPN := Lib.hid hpn
            have HQD := Lib.hid hqd
            clear hr0 hPne hv hp hr hfr hpn hqd hx hy
            go_upto_region 10 with fail
            rw [← HXE.out]
            go_upto_region 15 with fail
            go_region_law ((refine step_append_row _ rfl (.tmp 57) (.tmp 59) 24 rfl 39 i0 _ 2 16 Try.underlying24 hi hzz hzs hzb rfl (by omega) (.slice va pn vc) pn ((partOf (x + m) (y + m) 0 (l.take k)).flatMap encCell) rfl H1.out ⟨X.heap.size, 0, none⟩ 1 1 [.int .i64 zx, .int .i64 zy] rfl rfl (news_alloc X.drew _ _ rfl) (by simp [Value.oneCell']) (by omega) (by unfold maxLen; omega) (by omega) _ rfl ?_; intro g off cap w1 hrow hg hat; have d1 : w1.cell? ⟨w.heap.size, 0, none⟩ = some (.slice va pn vc) := (hg.cell_far (a := ⟨w.heap.size, 0, none⟩) (by simp; omega) H2.out).trans ((World.cell?_of_block (Below.heap_alloc X.drew _ w.heap.size hXl)).trans c1); have d2 : w1.frozen? ⟨w.heap.size, 0, none⟩ = false := (hg.frozen_far (a := ⟨w.heap.size, 0, none⟩) (by simp; omega) H2.out).trans ((World.frozen?_of_block (Below.heap_alloc X.drew _ w.heap.size hXl)).trans (Joins.unfrozen_of_block HPX.out.own 0))))
            all_goals
              have HA : Aside (Parts w.heap.size w (partsOf (x + m) (y + m) (l.take (k + 1))) (vs.set 0 (.slice (some ⟨g, off, none⟩) (pn + 1) cap)) (w1.setCell ⟨w.heap.size, 0, none⟩ (.slice (some ⟨g, off, none⟩) (pn + 1) cap))) := by
                show Parts _ _ _ _ _
                rw [HSN.out, HQD.out]
                refine Parts.app (c := (zx, zy)) ((HPX.out.more (Below.refl _ X).drew).more ((Below.refl _ X.drew).alloc (Nat.le_refl _) (.cells #[.int .i64 zx, .int .i64 zy] 39 (0, 0)))) (by rw [HPN.out]; exact HV.out) HPP.out (by rw [← HPN.out]; exact hrow) hg hat
              clear hrow hg hat
              go_wp2_with fail
              refine ⟨⟨k + 1, _, by go_num, hkn, HA⟩, by simp [intOf]; omega⟩
      · have u1 : decide ((k : Int) < (n : Int)) = false := decide_eq_false (by omega)
        have u2 : decide (k < n) = false := decide_eq_false hkn
        have hkl : l.take k = l := List.take_of_length_le (by have := HNN.out; omega)
        have hPA := HP.out
        rw [hkl] at hPA
        have hvx : ∀ j, j < 4 → ∃ v, vs[j]? = some v := fun j hj => ⟨_, List.getElem?_eq_getElem (by rw [hPA.len]; exact hj)⟩
        obtain ⟨W1, hW1⟩ : ∃ W, W = wr.alloc (.cells #[.int .i64 0, .int .i64 0, .int .i64 0, .int .i64 0] 72 (0, 0)) := ⟨_, rfl⟩
        have hbW : Below wr.heap.size wr W1 := by rw [hW1]; exact (Below.refl _ _).alloc (Nat.le_refl _) _
        have hP1 := hPA.more hbW
        have hQ1 : W1.heap[wr.heap.size]? = some (.cells #[.int .i64 0, .int .i64 0, .int .i64 0, .int .i64 0] 72 (0, 0)) := by rw [hW1]; exact blk_last wr _ rfl
        have hPw : w.heap.size < wr.heap.size := lt_of_block hPA.own
        have hww := hPA.below.size
        have hW1z : W1.heap.size = wr.heap.size + 1 := by rw [hW1]; simp
        have hB0 : BS U w W1 F hb b t ty rest S bad wr.heap.size S bad F 0 (0, 0, 0, 0) W1 := ⟨⟨HH.out.below hP1.below, HHH.out.keep (hP1.below.block hb hhlt), fun i hi => .inl hi, Keeps.of_below hP1.below⟩, fun i hi => .inl hi, Res.refl HWF.out, fun i _ _ _ => rfl, hQ1, ⟨by show I64 0; unfold I64; omega, by show I64 0; unfold I64; omega, by show I64 0; unfold I64; omega, by show I64 0; unfold I64; omega⟩, Nat.le_refl _, ⟨hww, by omega⟩, HH.out.lt, hn, hhlt⟩
        have hparts : ∀ j v, j < 4 → vs[j]? = some v → ∃ aj cj, v = .slice aj (partOf (x + m) (y + m) j l).length cj ∧ Row W1 39 2 v (partOf (x + m) (y + m) j l).length ((partOf (x + m) (y + m) j l).flatMap encCell) ∧ (∀ g, v.ownBlock = some g → w.heap.size ≤ g ∧ g ≠ wr.heap.size) ∧ W1.cell? ⟨w.heap.size, j, none⟩ = some v := fun j v hj hv => by
          have hr := hP1.rows j v _ hv (partsOf_at (x + m) (y + m) l hj)
          have hr2 := hPA.rows j v _ hv (partsOf_at (x + m) (y + m) l hj)
          obtain ⟨aj, cj, e, _, _, _⟩ := hr.form
          refine ⟨aj, cj, e, hr, fun g hg => ⟨by have := hP1.fresh j v g hv hg; omega, fun e => by have := hr2.lt g hg; omega⟩, ?_⟩
          rw [Joins.cell_of_block hP1.own]; simpa using hv
        have hlenp : ∀ j, (partOf (x + m) (y + m) j l).length ≤ 4096 := fun j => Nat.le_trans (part_le _ _ _ _) (by rw [← HNN.out]; exact hn4)
        have hzp : ∀ j, ∀ z ∈ partOf (x + m) (y + m) j l, I64 z.1 ∧ I64 z.2 := fun j z hz => HZ.out z ((List.mem_filter.1 hz).1)
        obtain ⟨v0, hv0⟩ := hvx 0 (by omega)
        obtain ⟨v1, hv1⟩ := hvx 1 (by omega)
        obtain ⟨v2, hv2⟩ := hvx 2 (by omega)
        obtain ⟨v3, hv3⟩ := hvx 3 (by omega)
        obtain ⟨a0, c0, rfl, R0, f0, p0⟩ := hparts 0 v0 (by omega) hv0
        obtain ⟨a1, c1, rfl, R1, f1, p1⟩ := hparts 1 v1 (by omega) hv1
        obtain ⟨a2, c2, rfl, R2, f2, p2⟩ := hparts 2 v2 (by omega) hv2
        obtain ⟨a3, c3, rfl, R3, f3, p3⟩ := hparts 3 v3 (by omega) hv3
        have HB0 := Lib.hid hB0
        have HR0 := Lib.hid R0
        have HR1 := Lib.hid R1
        have HR2 := Lib.hid R2
        have HR3 := Lib.hid R3
        have HF0 := Lib.hid f0
        have HF1 := Lib.hid f1
        have HF2 := Lib.hid f2
        have HF3 := Lib.hid f3
        have HC0 := Lib.hid p0
        have HC1 := Lib.hid p1
        have HC2 := Lib.hid p2
        have HC3 := Lib.hid p3
        have HLP := Lib.hid hlenp
        have HZP := Lib.hid hzp
        have HW1 := Lib.hid hW1
        have HW1Z := Lib.hid hW1z
        have HWW := Lib.hid hww
        clear hv0 hv1 hv2 hv3 R0 R1 R2 R3 f0 f1 f2 f3 p1 p2 p3 hB0 hparts hlenp hzp hW1 hbW hP1 hQ1 hvx hPA hkl hW1z hww
        go_upto_region 18 with fail
        rw [← HW1.out]
        go_wp2_with fail
        refine wp_loop_rounds 5 ?_
        rw [rounds_succ]
        have hc0 := HIH.out U hb b t bad ty rest S F (partOf (x + m) (y + m) 0 l) x y a0 c0 W1 HB0.out.st.1 HB0.out.res.wf HB0.out.st.2.1 HB0.out.hand ht (fun T' h => HUN.out T' (.inr (.inl h))) (by obtain ⟨a', c', e, hs⟩ := HB0.out.sl HR0.out HF0.out (HLP.out 0); simp only [Value.slice.injEq, true_and] at e; obtain ⟨rfl, rfl⟩ := e; exact hs) (HZP.out 0) (by omega) (by rw [HM2.out]; omega) (by omega) (by rw [HM2.out]; omega) (HLP.out 0)
        have HCALL := Lib.hid hc0
        clear hc0
        have pp0 : W1.cell? ⟨w.heap.size, 0, none⟩ = some (.slice a0 (partOf (x + m) (y + m) 0 l).length c0) := (World.cell?_of_block (HB0.out.loc w.heap.size (Nat.le_refl _) (by have := HB0.out.new; omega) (by omega))).trans HC0.out
        go_wp2_with fail
        refine HCALL.out.mono ?_
        rintro e w1 ⟨S1, b1, v, F1, rfl, hm, g1, g2, g3, g4⟩
        obtain ⟨r0, rfl, hr, hres, hden⟩ := hm
        have hfr0 := HB0.out.free HB0.out.new.1 HB0.out.new.2
        have hqb0 := (g4.block wr.heap.size (lt_of_block HB0.out.blk) (fun e => by rcases e with e | e; exact hfr0.1 e; exact hfr0.2 e)).trans HB0.out.blk
        have HRES0 := Lib.hid hres
        have HDEN0 := Lib.hid hden
        have HR640 := Lib.hid hr
        have HB1 := Lib.hid (HB0.out.step (q' := (r0, 0, 0, 0)) (j := 0) (r := r0) g1 g2 g3 g4 hres rfl ⟨hr, HB0.out.q64.2.1, HB0.out.q64.2.2.1, HB0.out.q64.2.2.2⟩)
        have s0 := Joins.cell_of_block hqb0 0
        simp at s0
        have t0' := Joins.unfrozen_of_block hqb0 0
        obtain ⟨X1, hX1⟩ : ∃ X, X = w1.setCell ⟨wr.heap.size, 0, none⟩ (.int .i64 r0) := ⟨_, rfl⟩
        rw [← hX1] at HB1
        have HXX1 := Lib.hid hX1
        clear g1 g2 g3 g4 hres hden hr hfr0 hqb0 pp0 HCALL hX1
        go_upto_region 22 with fail
        rw [← HXX1.out]
        clear s0 t0'
        go_wp2_with fail
        rw [rounds_succ]
        have hc1 := HIH.out U hb b t b1 ty rest S1 F1 (partOf (x + m) (y + m) 1 l) (x + (m : Int)) y a1 c1 X1 HB1.out.st.1 HB1.out.res.wf HB1.out.st.2.1 HB1.out.hand ht (fun T' h => HUN.out T' (.inr (.inr (.inl h)))) (by obtain ⟨a', c', e, hs⟩ := HB1.out.sl HR1.out HF1.out (HLP.out 1); simp only [Value.slice.injEq, true_and] at e; obtain ⟨rfl, rfl⟩ := e; exact hs) (HZP.out 1) (by omega) (by rw [HM2.out]; omega) (by omega) (by rw [HM2.out]; omega) (HLP.out 1)
        have HCALL := Lib.hid hc1
        clear hc1
        have pp1 : X1.cell? ⟨w.heap.size, 1, none⟩ = some (.slice a1 (partOf (x + m) (y + m) 1 l).length c1) := (World.cell?_of_block (HB1.out.loc w.heap.size (Nat.le_refl _) (by have := HB0.out.new; omega) (by omega))).trans HC1.out
        go_wp2_with fail
        refine HCALL.out.mono ?_
        rintro e w2 ⟨S2, b2, v, F2, rfl, hm, g1, g2, g3, g4⟩
        obtain ⟨r1, rfl, hr, hres, hden⟩ := hm
        have hfr1 := HB1.out.free HB1.out.new.1 HB1.out.new.2
        have hqb1 := (g4.block wr.heap.size (lt_of_block HB1.out.blk) (fun e => by rcases e with e | e; exact hfr1.1 e; exact hfr1.2 e)).trans HB1.out.blk
        have HRES1 := Lib.hid hres
        have HDEN1 := Lib.hid hden
        have HR641 := Lib.hid hr
        have HB2 := Lib.hid (HB1.out.step (q' := (r0, r1, 0, 0)) (j := 1) (r := r1) g1 g2 g3 g4 hres rfl ⟨HB1.out.q64.1, hr, HB1.out.q64.2.2.1, HB1.out.q64.2.2.2⟩)
        have s1 := Joins.cell_of_block hqb1 1
        simp at s1
        have t1' := Joins.unfrozen_of_block hqb1 1
        obtain ⟨X2, hX2⟩ : ∃ X, X = w2.setCell ⟨wr.heap.size, 1, none⟩ (.int .i64 r1) := ⟨_, rfl⟩
        rw [← hX2] at HB2
        have HXX2 := Lib.hid hX2
        clear g1 g2 g3 g4 hres hden hr hfr1 hqb1 pp1 HCALL hX2
        go_upto_region 22 with fail
        rw [← HXX2.out]
        clear s1 t1'
        go_wp2_with fail
        rw [rounds_succ]
        have hc2 := HIH.out U hb b t b2 ty rest S2 F2 (partOf (x + m) (y + m) 2 l) x (y + (m : Int)) a2 c2 X2 HB2.out.st.1 HB2.out.res.wf HB2.out.st.2.1 HB2.out.hand ht (fun T' h => HUN.out T' (.inr (.inr (.inr (.inl h))))) (by obtain ⟨a', c', e, hs⟩ := HB2.out.sl HR2.out HF2.out (HLP.out 2); simp only [Value.slice.injEq, true_and] at e; obtain ⟨rfl, rfl⟩ := e; exact hs) (HZP.out 2) (by omega) (by rw [HM2.out]; omega) (by omega) (by rw [HM2.out]; omega) (HLP.out 2)
        have HCALL := Lib.hid hc2
        clear hc2
        have pp2 : X2.cell? ⟨w.heap.size, 2, none⟩ = some (.slice a2 (partOf (x + m) (y + m) 2 l).length c2) := (World.cell?_of_block (HB2.out.loc w.heap.size (Nat.le_refl _) (by have := HB0.out.new; omega) (by omega))).trans HC2.out
        go_wp2_with fail
        refine HCALL.out.mono ?_
        rintro e w3 ⟨S3, b3, v, F3, rfl, hm, g1, g2, g3, g4⟩
        obtain ⟨r2, rfl, hr, hres, hden⟩ := hm
        have hfr2 := HB2.out.free HB2.out.new.1 HB2.out.new.2
        have hqb2 := (g4.block wr.heap.size (lt_of_block HB2.out.blk) (fun e => by rcases e with e | e; exact hfr2.1 e; exact hfr2.2 e)).trans HB2.out.blk
        have HRES2 := Lib.hid hres
        have HDEN2 := Lib.hid hden
        have HR642 := Lib.hid hr
        have HB3 := Lib.hid (HB2.out.step (q' := (r0, r1, r2, 0)) (j := 2) (r := r2) g1 g2 g3 g4 hres rfl ⟨HB2.out.q64.1, HB2.out.q64.2.1, hr, HB2.out.q64.2.2.2⟩)
        have s2 := Joins.cell_of_block hqb2 2
        simp at s2
        have t2' := Joins.unfrozen_of_block hqb2 2
        obtain ⟨X3, hX3⟩ : ∃ X, X = w3.setCell ⟨wr.heap.size, 2, none⟩ (.int .i64 r2) := ⟨_, rfl⟩
        rw [← hX3] at HB3
        have HXX3 := Lib.hid hX3
        clear g1 g2 g3 g4 hres hden hr hfr2 hqb2 pp2 HCALL hX3
        go_upto_region 22 with fail
        rw [← HXX3.out]
        clear s2 t2'
        go_wp2_with fail
        rw [rounds_succ]
        have hc3 := HIH.out U hb b t b3 ty rest S3 F3 (partOf (x + m) (y + m) 3 l) (x + (m : Int)) (y + (m : Int)) a3 c3 X3 HB3.out.st.1 HB3.out.res.wf HB3.out.st.2.1 HB3.out.hand ht (fun T' h => HUN.out T' (.inr (.inr (.inr (.inr h))))) (by obtain ⟨a', c', e, hs⟩ := HB3.out.sl HR3.out HF3.out (HLP.out 3); simp only [Value.slice.injEq, true_and] at e; obtain ⟨rfl, rfl⟩ := e; exact hs) (HZP.out 3) (by omega) (by rw [HM2.out]; omega) (by omega) (by rw [HM2.out]; omega) (HLP.out 3)
        have HCALL := Lib.hid hc3
        clear hc3
        have pp3 : X3.cell? ⟨w.heap.size, 3, none⟩ = some (.slice a3 (partOf (x + m) (y + m) 3 l).length c3) := (World.cell?_of_block (HB3.out.loc w.heap.size (Nat.le_refl _) (by have := HB0.out.new; omega) (by omega))).trans HC3.out
        go_wp2_with fail
        refine HCALL.out.mono ?_
        rintro e w4 ⟨S4, b4, v, F4, rfl, hm, g1, g2, g3, g4⟩
        obtain ⟨r3, rfl, hr, hres, hden⟩ := hm
        have hfr3 := HB3.out.free HB3.out.new.1 HB3.out.new.2
        have hqb3 := (g4.block wr.heap.size (lt_of_block HB3.out.blk) (fun e => by rcases e with e | e; exact hfr3.1 e; exact hfr3.2 e)).trans HB3.out.blk
        have HRES3 := Lib.hid hres
        have HDEN3 := Lib.hid hden
        have HR643 := Lib.hid hr
        have HB4 := Lib.hid (HB3.out.step (q' := (r0, r1, r2, r3)) (j := 3) (r := r3) g1 g2 g3 g4 hres rfl ⟨HB3.out.q64.1, HB3.out.q64.2.1, HB3.out.q64.2.2.1, hr⟩)
        have s3 := Joins.cell_of_block hqb3 3
        simp at s3
        have t3' := Joins.unfrozen_of_block hqb3 3
        obtain ⟨X4, hX4⟩ : ∃ X, X = w4.setCell ⟨wr.heap.size, 3, none⟩ (.int .i64 r3) := ⟨_, rfl⟩
        rw [← hX4] at HB4
        have HXX4 := Lib.hid hX4
        clear g1 g2 g3 g4 hres hden hr hfr3 hqb3 pp3 HCALL hX4
        go_upto_region 22 with fail
        rw [← HXX4.out]
        clear s3 t3'
        go_wp2_with fail
        rw [rounds_succ]
        have z0 := Joins.cell_of_block HB4.out.blk 0
        have z1 := Joins.cell_of_block HB4.out.blk 1
        have z2 := Joins.cell_of_block HB4.out.blk 2
        have z3 := Joins.cell_of_block HB4.out.blk 3
        simp at z0 z1 z2 z3
        have hJ := hjoin_tree (U := U) hb b t b4 ty rest S4 F4 (r0, r1, r2, r3) lev (buildT lev x y (partOf (x + m) (y + m) 0 l)) (buildT lev (x + m) y (partOf (x + m) (y + m) 1 l)) (buildT lev x (y + m) (partOf (x + m) (y + m) 2 l)) (buildT lev (x + m) (y + m) (partOf (x + m) (y + m) 3 l)) X4 HB4.out.st.1 HB4.out.res.wf HB4.out.st.2.1 HB4.out.hand HB4.out.q64 ht (by omega) (fun e4 => by
          have e3 := HRES3.out.nil e4
          have e2 := HRES2.out.nil e3
          have e1 := HRES1.out.nil e2
          exact ⟨(((HDEN0.out e1).ext (HRES1.out.grew.ext t)).ext (HRES2.out.grew.ext t)).ext (HRES3.out.grew.ext t), ((HDEN1.out e2).ext (HRES2.out.grew.ext t)).ext (HRES3.out.grew.ext t), (HDEN2.out e3).ext (HRES3.out.grew.ext t), HDEN3.out e4⟩) (fun _ => HUN.out _ (.inl rfl))
        unfold fourV at hJ
        have HJ := Lib.hid hJ
        clear hJ
        go_wp2_with fail
        refine HJ.out.mono ?_
        rintro e w5 ⟨S5, b5, v, F5, rfl, ⟨hm, _⟩, g1, g2, g3, g4⟩
        obtain ⟨r, rfl, hr, hres, hden⟩ := hm
        have HS5 : Aside (HState w F hb b t ty rest S5 b5 F5 w5) := HB4.out.st.trans ⟨g1, g2, g3, g4⟩
        have HR5 := Lib.hid (HB4.out.res.trans hres)
        have HD5 := Lib.hid hden
        have HI5 := Lib.hid hr
        clear g1 g2 g3 g4 hres hden hr
        go_wp2_with fail
        go_ret
        refine ⟨S5, b5, _, F5, rfl, ⟨r, rfl, HI5.out, HR5.out.more ?_, fun e5 => ?_⟩, HS5.out.1, HS5.out.2.1, HS5.out.2.2.1, HS5.out.2.2.2⟩
        · rw [costB_some HNE.out HM2.out]
          omega
        · rw [buildT_some HNE.out HM2.out]
          exact HD5.out e5
theorem build_any : ∀ level, level ≤ 43 → BuildOk level
  | 0, _ => build_zero
  | n + 1, h => build_succ n h (build_any n (by omega))
end Go.Proofs.Ytabhpbkkjijfjaa
