/-
  ref.Store's Join.
-/
import Derived.Test.YtdmamecfmfhlmaaZArenaPlaysReGiveNo
import Derived.Test.YtdmamecfmfhlmaaZArenaPlays20
namespace Go.Proofs.Ytdmamecfmfhlmaa
set_option maxRecDepth 100000
open Go.RowKit

/-- What the document's arena is like. -/
structure ReGood (S : RSt) : Prop where
  room : S.room ≤ 200000
  uniq : ∀ (i j : Nat) (p q : Nat × Ent), S.T[i]? = some p → S.T[j]? = some q → p.2.key = q.2.key → i = j
  good : ∀ p ∈ S.T, GoodE p.2
  mask : ∀ p ∈ S.T, p.2.ma < 18446744073709551616
  few : ∀ t, (S.sn t).length ≤ 200000
theorem giveR_any (b : Nat) (S : RSt) (arr : Array Value) (v1 : Value) (vs : List Value) (F : Nat → Prop) (t : Nat) (k : AKey) (lv va : Int) (w : World) (h : ReAt b S arr v1 vs w F) (ht : t < 64) (hS : ReGood S) (hg : GoodA k) :
    Calls Try.prog 90 #[.pointer (some ⟨b, 0, none⟩), .int .i64 t, wantV k lv va] w (GivenR b S F t k lv va w) := by
  by_cases hk : ∃ (i : Nat) (p : Nat × Ent), S.T[i]? = some p ∧ p.2.key = k
  · obtain ⟨i, p, hp, hk⟩ := hk
    exact giveR_has b S arr v1 vs F t k lv va w h ht hS.good hg hS.uniq i p hp hk (hS.mask p (List.mem_of_getElem? hp)) (hS.few t)
  · refine giveR_no b S arr v1 vs F t k lv va w h ht hS.good hg (fun p hp e => ?_) hS.room (hS.few t)
    obtain ⟨i, hi⟩ := List.mem_iff_getElem?.1 hp
    exact hk ⟨i, p, hi, e⟩
def qL (q : Four) : List Int := [q.1, q.2.1, q.2.2.1, q.2.2.2]
def okR (S : RSt) (t : Nat) (id : Int) : Bool := (ownR S.T t id 0).2
def lvR (S : RSt) (t : Nat) (id : Int) : Int := (ownR S.T t id 0).1.2.lv
def lvsR (S : RSt) (t : Nat) (q : Four) : List Int := (qL q).map (lvR S t)
def fitR (l0 n : Int) : Bool := decide (n = l0) && decide (n < 44)
/-- What the document's Join comes to. -/
def JoinRel (S : RSt) (t : Int) (q : Four) (r e : Int) (S' : RSt) : Prop :=
  if tenB t = false then r = 0 ∧ e = 3 ∧ S' = S else
  if (qL q).all (okR S t.toNat) = false then r = 0 ∧ e = 6 ∧ S' = S else
  if (lvsR S t.toNat q).all (fitR (lvR S t.toNat q.1)) = false then r = 0 ∧ e = 8 ∧ S' = S else
  GaveR S t.toNat (0, q) (lvR S t.toNat q.1 + 1) 0 r e S'
def JoinedR (b : Nat) (S : RSt) (F : Nat → Prop) (t : Int) (q : Four) (w : World) (e : Ending) (w' : World) : Prop :=
  ∃ (r er : Int) (S' : RSt) (F' : Nat → Prop), e = .returned (.tuple #[.int .i64 r, .int .i64 er]) ∧ JoinRel S t q r er S' ∧ IsRe b S' w' F' ∧ (∀ i, F' i → F i ∨ w.heap.size ≤ i) ∧ Keeps F w w'
theorem index_four (q : Four) {k : Nat} {x : Int} (h : (qL q)[k]? = some x) (W : World) : (Instr.index 61 (fourV q) (.int .i64 (k : Int))).run Try.prog W = .ok (.int .i64 x) W := by
  obtain ⟨q0, q1, q2, q3⟩ := q
  have hk : k < 4 := (List.getElem?_eq_some_iff.1 h).1
  have i0 : (Instr.index 61 (.agg #[.int .i64 q0, .int .i64 q1, .int .i64 q2, .int .i64 q3]) (.int .i64 0)).run Try.prog W = .ok (.int .i64 q0) W := by kernel_rfl
  have i1 : (Instr.index 61 (.agg #[.int .i64 q0, .int .i64 q1, .int .i64 q2, .int .i64 q3]) (.int .i64 1)).run Try.prog W = .ok (.int .i64 q1) W := by kernel_rfl
  have i2 : (Instr.index 61 (.agg #[.int .i64 q0, .int .i64 q1, .int .i64 q2, .int .i64 q3]) (.int .i64 2)).run Try.prog W = .ok (.int .i64 q2) W := by kernel_rfl
  have i3 : (Instr.index 61 (.agg #[.int .i64 q0, .int .i64 q1, .int .i64 q2, .int .i64 q3]) (.int .i64 3)).run Try.prog W = .ok (.int .i64 q3) W := by kernel_rfl
  rcases (show k = 0 ∨ k = 1 ∨ k = 2 ∨ k = 3 by omega) with rfl | rfl | rfl | rfl
  all_goals
    simp only [qL, List.getElem?_cons_zero, List.getElem?_cons_succ, Option.some.injEq] at h
    subst h
  · exact i0
  · exact i1
  · exact i2
  · exact i3
theorem all_take_succ {α : Type} {l : List α} {f : α → Bool} {k : Nat} {x : α} (h : (l.take k).all f = true) (hx : l[k]? = some x) (hf : f x = true) : (l.take (k + 1)).all f = true := by
  rw [List.take_add_one, hx, List.all_append, h]
  simp [hf]
theorem all_not {α : Type} {l : List α} {f : α → Bool} {k : Nat} {x : α} (hx : l[k]? = some x) (hf : f x = false) : l.all f = false := by
  rw [List.all_eq_false]
  exact ⟨x, List.mem_of_getElem? hx, by rw [hf]; decide⟩
set_option maxHeartbeats 8000000 in
set_option maxRecDepth 100000 in
theorem joinR_any (b : Nat) (S : RSt) (F : Nat → Prop) (t : Int) (q : Four) (w : World) (h : IsRe b S w F) (hS : ReGood S) (hq : I64 q.1 ∧ I64 q.2.1 ∧ I64 q.2.2.1 ∧ I64 q.2.2.2) :
    Calls Try.prog 57 #[.pointer (some ⟨b, 0, none⟩), .int .i64 t, fourV q] w (JoinedR b S F t q w) := by
  obtain ⟨X, hX⟩ : ∃ X, X = w.alloc (.cells #[.int .i64 q.1, .int .i64 q.2.1, .int .i64 q.2.2.1, .int .i64 q.2.2.2] 61) := ⟨_, rfl⟩
  have hbX : Below w.heap.size w X := by rw [hX]; exact (Below.refl _ _).alloc (Nat.le_refl _) _
  have hx0 : X.heap[w.heap.size]? = some (.cells #[.int .i64 q.1, .int .i64 q.2.1, .int .i64 q.2.2.1, .int .i64 q.2.2.2] 61 (0, 0)) := by rw [hX]; exact blk_last w _ rfl
  have hzX : w.heap.size < X.heap.size := by rw [hX]; simp
  have HX := Lib.hid hX
  have HBX := Lib.hid hbX
  have HX0 := Lib.hid hx0
  rcases ten_cases t with ⟨t, ht, rfl⟩ | ht
  · have HT := Lib.hid (person_in t ht)
    obtain ⟨arr, v1, vs, h⟩ := h
    have HA := Lib.hid (h.below hbX)
    have HFLT := Lib.hid h.lt
    obtain ⟨i0, hi, hz0, hz1, hz2⟩ := info_parts infoNum
    have HQ := Lib.hid hq
    have HSG := Lib.hid hS
    have HE6 := Lib.hid (show (qL q).all (okR S t) = false → JoinRel S t q 0 6 S from fun e => by
      unfold JoinRel
      rw [if_neg (by rw [tenB_in ht]; decide), Int.toNat_natCast, if_pos e]
      exact ⟨rfl, rfl, rfl⟩)
    have HE8 := Lib.hid (show (qL q).all (okR S t) = true → (lvsR S t q).all (fitR (lvR S t q.1)) = false → JoinRel S t q 0 8 S from fun e e2 => by
      unfold JoinRel
      rw [if_neg (by rw [tenB_in ht]; decide), Int.toNat_natCast, if_neg (by rw [e]; decide), if_pos e2]
      exact ⟨rfl, rfl, rfl⟩)
    have HE0 := Lib.hid (show (qL q).all (okR S t) = true → (lvsR S t q).all (fitR (lvR S t q.1)) = true → ∀ r e S', GaveR S t (0, q) (lvR S t q.1 + 1) 0 r e S' → JoinRel S t q r e S' from fun e e2 r e' S' hG => by
      unfold JoinRel
      rw [if_neg (by rw [tenB_in ht]; decide), Int.toNat_natCast, if_neg (by rw [e]; decide), if_neg (by rw [e2]; decide)]
      exact hG)
    have hix := fun k x h W => index_four q (k := k) (x := x) h W
    have HIX := Lib.hid hix
    have f0 := Joins.cell_of_block hx0 0
    have f1 := Joins.cell_of_block hx0 1
    have f2 := Joins.cell_of_block hx0 2
    have f3 := Joins.cell_of_block hx0 3
    simp at f0 f1 f2 f3
    have HFV := Lib.hid (show fourV q = .agg #[.int .i64 q.1, .int .i64 q.2.1, .int .i64 q.2.2.1, .int .i64 q.2.2.2] from rfl)
    have HS0 : Aside (Row X 3 1 (.slice none 0 0) 0 (((lvsR S t q).take 0).map intV)) := Row.nil _ _ _
    have ht0 : (0 : Int) ≤ t := by omega
    have htI : (t : Int) < 64 := by omega
    clear hX hbX hx0 h hq hS hix
    rw [HFV.out]
    go_enter Try.func57, Try.ntmps57
    go_upto_region 1 with fail
    rw [← HX.out]
    go_wp2_with fail
    refine (HT.out _).mono ?_
    rintro e w1 ⟨rfl, hw1⟩
    rw [hw1]
    clear hw1 w1
    go_wp2_with fail
    rw [← HFV.out]
    go_loopw [8, 10, 11, 12, 19] (fun lv _ _ _ iv ws => ∃ k : Nat, iv = .int .i64 k ∧ k ≤ 4 ∧ Aside (Row ws 3 1 lv k (((lvsR S t q).take k).map intV)) ∧ Aside (∀ g, lv.ownBlock = some g → X.heap.size ≤ g) ∧ Aside (((qL q).take k).all (okR S t) = true) ∧ Below X.heap.size X ws) (fun _ _ _ _ iv _ => 4 - (intOf iv).toNat)
    case atStart => exact ⟨0, rfl, Nat.zero_le _, HS0, (show ∀ g, (Value.slice none 0 0).ownBlock = some g → X.heap.size ≤ g from fun g hg => by cases hg), rfl, Below.refl _ _⟩
    case round =>
      obtain ⟨k, rfl, hk4, HRW, HNEW, HALL, hbl⟩ := hrel
      by_cases hk : k < 4
      · obtain ⟨x, hx⟩ : ∃ x, (qL q)[k]? = some x := ⟨(qL q)[k]'(by show k < 4; exact hk), List.getElem?_eq_getElem _⟩
        have hix := HIX.out k x hx
        have HO := Lib.hid (owned_any b S arr v1 vs F t x 0 wr (HA.out.below hbl) ht)
        have u1 : decide ((k : Int) < 4) = true := decide_eq_true (by omega)
        have u2 : decide (k < 4) = true := decide_eq_true hk
        have HXX := Lib.hid hx
        have HBL := Lib.hid hbl
        obtain ⟨p, hp⟩ : ∃ p, p = ownR S.T t x 0 := ⟨_, rfl⟩
        rw [← hp] at HO
        have hpok : okR S t x = p.2 := by unfold okR; rw [← hp]
        have hplv : lvR S t x = p.1.2.lv := by unfold lvR; rw [← hp]
        have HPK := Lib.hid hpok
        have HPL := Lib.hid hplv
        obtain ⟨⟨pi, xk, xa, xb, xc, xd, xl, xv, xm⟩, ok⟩ := p
        unfold thingV at HO
        simp only at HO HPK HPL
        clear hx hp hbl hpok hplv
        cases ok with
        | false =>
          have HJ := Lib.hid (HE6.out (all_not HXX.out HPK.out))
          go_wp2_with fail
          with_reducible refine HO.out.mono ?_
          rintro e w2 ⟨rfl, hb2⟩
          have HB2 := Lib.hid (HBL.out.trans (hb2.mono HBL.out.size))
          clear hb2
          go_wp2_with fail
          go_ret2
          have hz2 := HB2.out.size
          exact ⟨0, 6, S, F, rfl, HJ.out, ⟨_, _, _, HA.out.below (HB2.out.alloc hz2 _)⟩, fun i hi => .inl hi, Keeps.of_below (HBX.out.trans ((HB2.out.alloc hz2 _).mono HBX.out.size))⟩
        | true =>
          have HAL2 := Lib.hid (all_take_succ HALL.out HXX.out HPK.out)
          go_wp2_with fail
          with_reducible refine HO.out.mono ?_
          rintro e w2 ⟨rfl, hb2⟩
          have HB2 := Lib.hid (HBL.out.trans (hb2.mono HBL.out.size))
          have hrw := HRW.out.keep fun g hg => hb2.block g (HRW.out.lt g hg)
          have HRW2 := Lib.hid hrw
          have hzw : X.heap.size ≤ w2.heap.size := HB2.out.size
          clear hb2 hrw
          go_upto_region 10 with fail
          obtain ⟨Y, hY⟩ : ∃ Y, Y = w2.alloc (.cells #[.int .i64 pi, .int .i64 xk, .int .i64 xl, .int .i64 xv, .int .i64 xa, .int .i64 xb, .int .i64 xc, .int .i64 xd, .int .u64 xm] 118) := ⟨_, rfl⟩
          rw [← hY]
          have hy0 : Y.heap[w2.heap.size]? = some (.cells #[.int .i64 pi, .int .i64 xk, .int .i64 xl, .int .i64 xv, .int .i64 xa, .int .i64 xb, .int .i64 xc, .int .i64 xd, .int .u64 xm] 118 (0, 0)) := by rw [hY]; exact blk_last w2 _ rfl
          have hbY : Below X.heap.size X Y := by rw [hY]; exact HB2.out.alloc hzw _
          have hrY : Row Y 3 1 u8 k (((lvsR S t q).take k).map intV) := HRW2.out.keep fun g hg => by rw [hY]; exact Below.heap_alloc w2 _ g (HRW2.out.lt g hg)
          have y2 := Joins.cell_of_block hy0 2
          simp at y2
          obtain ⟨a8, c8, hv8, -, -, -⟩ := hrY.form
          rw [hv8] at hrY
          have HV8 := Lib.hid hv8
          have HR7 := Lib.hid (show Row (Y.alloc (.cells #[.int .i64 xl] 3)) 3 1 (.slice a8 k c8) k (((lvsR S t q).take k).map intV) from hrY.keep fun g hg => Below.heap_alloc Y _ g (hrY.lt g hg))
          have HBY := Lib.hid hbY
          have M3 := Lib.hid (show k + 1 ≤ maxLen by unfold maxLen; omega)
          have M4 := Lib.hid (show (k + 1) * 8 ≤ 140737488355328 by omega)
          have HT9 := Lib.hid (show ((lvsR S t q).take (k + 1)).map intV = ((lvsR S t q).take k).map intV ++ [.int .i64 xl] by
            have e : (lvsR S t q)[k]? = some xl := by
              unfold lvsR
              rw [List.getElem?_map, HXX.out, Option.map_some, HPL.out]
            rw [List.take_add_one, e, List.map_append]
            rfl)
          rw [hv8]
          clear hY hy0 hbY hrY hv8
          go_wp2_with ((at_builtin; go_loud (refine wpList_append_row _ rfl (.tmp 31) (.tmp 34) 57 rfl 3 i0 _ 1 8 Try.underlying57 hi hz0 hz1 hz2 rfl (by omega) (.slice a8 k c8) k (((lvsR S t q).take k).map intV) rfl HR7.out ⟨Y.heap.size, 0, none⟩ 1 1 [.int .i64 xl] rfl rfl (news_alloc Y _ _ rfl) (by simp [Value.oneCell']) (by omega) M3.out M4.out _ rfl ?_; intro g6 off cap w6 hrow hg hat)))
          have hnew := HNEW.out
          rw [HV8.out] at hnew
          have hYX := HBY.out.size
          have hg6 : X.heap.size ≤ g6 := by
            rcases hat with e | e
            · exact hnew g6 e
            · rw [e]; simp; omega
          have hb6 : Below X.heap.size X w6 := (HBY.out.alloc hYX (.cells #[.int .i64 xl] 3)).trans ((Keeps.grown (F := fun i => X.heap.size ≤ i) (Keeps.refl _ _) hg fun g' hg' _ => hnew g' hg').toBelow (fun _ h => h) (by simp; omega))
          refine ⟨⟨k + 1, by go_num, hk, ?_, ?_, HAL2.out, hb6⟩, by simp [intOf]; omega⟩
          · show Row w6 3 1 _ (k + 1) (((lvsR S t q).take (k + 1)).map intV)
            rw [HT9.out]
            exact hrow
          · show ∀ g, (Value.slice (some ⟨g6, off, none⟩) (k + 1) cap).ownBlock = some g → X.heap.size ≤ g
            intro g e
            obtain rfl : g6 = g := by simpa [Value.ownBlock] using e
            exact hg6
      · have hk4' : k = 4 := by omega
        subst hk4'
        have u1 : decide (((4 : Nat) : Int) < 4) = false := rfl
        have hown := HALL.out
        rw [List.take_of_length_le (by show 4 ≤ 4; omega)] at hown
        have HOWN := Lib.hid hown
        have hrw := HRW.out
        rw [List.take_of_length_le (by show 4 ≤ 4; omega)] at hrw
        obtain ⟨a8, c8, hv8, -, -, -⟩ := hrw.form
        rw [hv8] at hrw ⊢
        obtain ⟨g, o, rfl, hcell, hf, hlt⟩ := hrw.cells (by omega)
        obtain ⟨l0, hl0⟩ : ∃ l, l = lvR S t q.1 := ⟨_, rfl⟩
        have hlv : ∀ j y, (lvsR S t q)[j]? = some y → wr.cell? ⟨g, o + j, none⟩ = some (.int .i64 y) := fun j y hy => by
          have hj : j < 4 := (List.getElem?_eq_some_iff.1 hy).1
          rw [hcell j (by omega), List.getElem?_map, hy]
          rfl
        have e0 : wr.cell? ⟨g, o, none⟩ = some (.int .i64 l0) := by rw [hl0]; exact hlv 0 _ rfl
        have HLV := Lib.hid hlv
        have HL0 := Lib.hid hl0
        have HBL := Lib.hid hbl
        have hgood0 : I64 l0 := by
          rw [hl0]
          unfold lvR ownR
          split
          · show I64 0; unfold I64; omega
          · cases hn : (thN S.T q.1).bind (S.T[·]?) with
            | none => show I64 0; unfold I64; omega
            | some p =>
              simp only
              split
              · cases hn2 : thN S.T q.1 with
                | none => rw [hn2] at hn; cases hn
                | some j =>
                  rw [hn2, Option.bind_some] at hn
                  exact (HSG.out.good p (List.mem_of_getElem? hn)).2.1
              · show I64 0; unfold I64; omega
        have hl0a : -9223372036854775808 ≤ l0 := by unfold I64 at hgood0; omega
        clear hown hrw hv8 hcell hf hlv hl0 hbl hgood0
        obtain ⟨V, hV⟩ : ∃ V, V = wr := ⟨_, rfl⟩
        subst hV
        go_wp2_with fail
        go_loopw [14, 39] (fun _ iv ws => ∃ k : Nat, iv = .int .i64 k ∧ k ≤ 4 ∧ Aside (((lvsR S t q).take k).all (fitR l0) = true) ∧ ws = V) (fun _ iv _ => 4 - (intOf iv).toNat)
        case atStart => exact ⟨0, rfl, Nat.zero_le _, (show ((lvsR S t q).take 0).all (fitR l0) = true from rfl), rfl⟩
        case round =>
          obtain ⟨k, rfl, hk4, HFT, rfl⟩ := hrel
          by_cases hk : k < 4
          · obtain ⟨y, hy⟩ : ∃ y, (lvsR S t q)[k]? = some y := ⟨(lvsR S t q)[k]'(by show k < 4; exact hk), List.getElem?_eq_getElem _⟩
            have ey := HLV.out k y hy
            have HY := Lib.hid hy
            have v1' : decide ((k : Int) < ((4 : Nat) : Int)) = true := decide_eq_true (by omega)
            have v2' : decide ((k : Int) < 4) = true := decide_eq_true (by omega)
            have v3' : decide (k < 4) = true := decide_eq_true hk
            clear hy
            by_cases hyl : y = l0
            · subst hyl
              by_cases hy4 : y < 44
              · have t1 : decide (y ≥ 44) = false := decide_eq_false (by omega)
                have t2 : decide ((44 : Int) ≤ y) = false := decide_eq_false (by omega)
                have HF2 := Lib.hid (all_take_succ HFT.out HY.out (by unfold fitR; rw [decide_eq_true rfl, decide_eq_true hy4]; rfl))
                go_wp2_with fail
                exact ⟨⟨k + 1, by go_num, hk, HF2.out, trivial⟩, by simp [intOf]; omega⟩
              · have t1 : decide (y ≥ 44) = true := decide_eq_true (by omega)
                have t2 : decide ((44 : Int) ≤ y) = true := decide_eq_true (by omega)
                have HJ := Lib.hid (HE8.out HOWN.out (all_not HY.out (by unfold fitR; rw [decide_eq_false hy4, Bool.and_false])))
                go_wp2_with fail
                go_ret2
                exact ⟨0, 8, S, F, rfl, HJ.out, ⟨_, _, _, HA.out.below HBL.out⟩, fun i hi => .inl hi, Keeps.of_below (HBX.out.trans (HBL.out.mono HBX.out.size))⟩
            · have t0 : (y != l0) = true := by simpa using hyl
              have HJ := Lib.hid (HE8.out HOWN.out (all_not HY.out (by unfold fitR; rw [← HL0.out, decide_eq_false hyl, Bool.false_and])))
              go_wp2_with fail
              go_ret2
              exact ⟨0, 8, S, F, rfl, HJ.out, ⟨_, _, _, HA.out.below HBL.out⟩, fun i hi => .inl hi, Keeps.of_below (HBX.out.trans (HBL.out.mono HBX.out.size))⟩
          · have v1' : decide ((k : Int) < ((4 : Nat) : Int)) = false := decide_eq_false (by omega)
            have v2' : decide ((k : Int) < 4) = false := decide_eq_false (by omega)
            have v3' : decide (k < 4) = false := decide_eq_false hk
            have hft := HFT.out
            rw [List.take_of_length_le (by show 4 ≤ k; omega)] at hft
            have h44 : l0 < 44 := by
              rw [List.all_eq_true] at hft
              have := hft l0 (by rw [HL0.out]; exact List.mem_cons_self)
              unfold fitR at this
              simp only [Bool.and_eq_true, decide_eq_true_eq] at this
              exact this.2
            have HFT2 := Lib.hid hft
            clear hft
            have hw44 : IntKind.i64.wrap (l0 + 1) = l0 + 1 := by rw [IntKind.wrap_i64]; omega
            obtain ⟨l1, hl1⟩ : ∃ l1, l1 = l0 + 1 := ⟨_, rfl⟩
            rw [← hl1] at hw44
            have HGV := Lib.hid (fun (W : World) (hW : Below X.heap.size X W) => (show Calls Try.prog 90 #[.pointer (some ⟨b, 0, none⟩), .int .i64 t, .agg #[.int .i64 0, .int .i64 0, .int .i64 l1, .int .i64 0, .int .i64 q.1, .int .i64 q.2.1, .int .i64 q.2.2.1, .int .i64 q.2.2.2, .int .u64 0]] W (GivenR b S F t (0, q) l1 0 W) from giveR_any b S arr v1 vs F t (0, q) l1 0 W (HA.out.below hW) ht HSG.out ⟨by show I64 0; unfold I64; omega, HQ.out⟩))
            have HL1 := Lib.hid hl1
            have hbx : wr.heap[w.heap.size]? = _ := (HBL.out.block _ hzX).trans HX0.out
            have HFIN := Lib.hid (fun (r er : Int) (S' : RSt) (hG : GaveR S t (0, q) l1 0 r er S') => HE0.out HOWN.out (by rw [← HL0.out]; exact HFT2.out) r er S' (by rw [← HL0.out, ← HL1.out]; exact hG))
            have h0 := Joins.cell_of_block hbx 0
            have h1 := Joins.cell_of_block hbx 1
            have h2 := Joins.cell_of_block hbx 2
            have h3 := Joins.cell_of_block hbx 3
            simp at h0 h1 h2 h3
            have HBD := Lib.hid (show Below X.heap.size X wr.drew from HBL.out.drew)
            clear hbx
            subst hl1
            clear HL1
            have hC := HGV.out wr.drew HBD.out
            unfold GivenR at hC
            have HC := Lib.hid hC
            clear hC HGV
            go_upto_region 18 with fail
            go_region_with ((with_reducible refine Calls.mono HC.out ?_; rintro e w2 ⟨r, er, S', F', rfl, g1, g2, g3, g4⟩; have G1 := Lib.hid (HFIN.out r er S' g1); have G2 := Lib.hid g2; have G3 := Lib.hid g3; have G4 := Lib.hid g4; clear g1 g2 g3 g4))
            all_goals
              go_wp2_with fail
              go_ret2
              refine ⟨r, er, S', F', rfl, G1.out, G2.out, fun i hi => (G3.out i hi).imp (fun h => h) (fun h => ?_), (Keeps.of_below (F := F) (HBX.out.trans (HBD.out.mono HBX.out.size))).trans G4.out (fun _ _ h => h)⟩
              have := HBX.out.size
              have := HBD.out.size
              omega
  · have HT := Lib.hid (person_out t ht)
    have HA := Lib.hid (show IsRe b S X F from by
      obtain ⟨arr, v1, vs, h⟩ := h
      exact ⟨_, _, _, h.below hbX⟩)
    have HJ := Lib.hid (show JoinRel S t q 0 3 S by unfold JoinRel; rw [if_pos (tenB_out ht)]; exact ⟨rfl, rfl, rfl⟩)
    have HFV := Lib.hid (show fourV q = .agg #[.int .i64 q.1, .int .i64 q.2.1, .int .i64 q.2.2.1, .int .i64 q.2.2.2] from rfl)
    clear hX hbX hx0 h hq hS
    rw [HFV.out]
    go_enter Try.func57, Try.ntmps57
    go_upto_region 1 with fail
    rw [← HX.out]
    go_wp2_with fail
    refine (HT.out _).mono ?_
    rintro e w1 ⟨rfl, hw1⟩
    rw [hw1]
    clear hw1 w1
    go_wp2_with fail
    go_ret2
    exact ⟨0, 3, S, F, rfl, HJ.out, HA.out, fun i hi => .inl hi, Keeps.of_below HBX.out⟩
end Go.Proofs.Ytdmamecfmfhlmaa
