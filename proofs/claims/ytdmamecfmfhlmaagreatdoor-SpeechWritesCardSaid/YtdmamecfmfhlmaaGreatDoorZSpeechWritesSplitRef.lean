/-
  The document's splitAt.
-/
import Derived.Test.YtdmamecfmfhlmaaGreatDoorZSpeechWrites23
namespace Go.Proofs.YtdmamecfmfhlmaaGreatDoor
set_option maxRecDepth 100000
open Go.RowKit

/-- Pieces in memory of one's own. -/
def PiecesAt (base : Nat) (w : World) (v : Value) (ts : List (List UInt8)) : Prop := Row w 9 1 v ts.length (encS ts) ∧ ∀ g, v.ownBlock = some g → base ≤ g
theorem PiecesAt.drew {base : Nat} {w : World} {v : Value} {ts : List (List UInt8)} (h : PiecesAt base w v ts) : PiecesAt base w.drew v ts := ⟨h.1.keep (fun _ _ => rfl), h.2⟩
theorem PiecesAt.below {base : Nat} {w w' : World} {v : Value} {ts : List (List UInt8)} (h : PiecesAt base w v ts) (hb : Below w.heap.size w w') : PiecesAt base w' v ts := ⟨h.1.keep (fun g hg => hb.block g (h.1.lt g hg)), h.2⟩
theorem encS_at (ts : List (List UInt8)) (k : Nat) (t : List UInt8) (h : ts[k]? = some t) : (encS ts)[k]? = some (.string (txt t)) := by
  rw [encS, List.getElem?_map, h]; rfl
theorem encS_set (ts : List (List UInt8)) (k : Nat) (t : List UInt8) : (encS ts).set k (.string (txt t)) = encS (ts.set k t) := by
  rw [encS, encS, List.map_set]
set_option maxHeartbeats 4000000 in
theorem splitAt_any (c : UInt8) (C : List UInt8) (w : World) (hC : C.length ≤ 1048576) :
    Calls Tryz.prog 29 #[.string (txt C), .int .u8 c.toNat] w fun e w' => ∃ v, e = .returned v ∧ Below w.heap.size w w' ∧ PiecesAt w.heap.size w' v (splC c C) := by
  obtain ⟨i0, hi, hz0, hz1, hz2⟩ := info_parts infoStr
  obtain ⟨S, hS⟩ : ∃ S, S = txt C := ⟨_, rfl⟩
  obtain ⟨n, hN⟩ : ∃ n, n = C.length := ⟨_, rfl⟩
  have hsz : S.size = n := by rw [hS, hN, txt_size]
  rw [← hN] at hC
  rw [← hS]
  have HS := Lib.hid hS
  have HN := Lib.hid hN
  obtain ⟨cc, hcc⟩ : ∃ x, x = c.toNat := ⟨_, rfl⟩
  have HCC := Lib.hid hcc
  rw [← hcc]
  have hc256 : cc < 256 := by rw [hcc]; exact c.toNat_lt
  clear hS hN hcc
  go_enter Tryz.func29, Tryz.ntmps29
  go_wp2_with fail
  go_loopw [5, 6] (fun lv i wr => ∃ j : Nat, i = .int .i64 j ∧ j ≤ n ∧ Aside (PiecesAt w.heap.size wr lv (splC c (C.take j))) ∧ Below w.heap.size w wr) (fun _ i _ => n - (intOf i).toNat)
  case atStart =>
    refine ⟨0, rfl, Nat.zero_le _, ?_, (Below.refl _ _).alloc (Nat.le_refl _) _⟩
    show PiecesAt _ _ _ _
    rw [List.take_zero]
    refine ⟨⟨rfl, .inr ⟨w.heap.size, 0, 1, #[.string ⟨#[]⟩], rfl, blk_last w _ rfl, Nat.le_refl _, by decide, by simp, rfl⟩⟩, fun g hg => ?_⟩
    simp only [Value.ownBlock, Option.some.injEq] at hg
    omega
  case round =>
    obtain ⟨j, rfl, hj, HP, hB⟩ := hrel
    have hz := hB.size
    by_cases hlt : j < n
    · obtain ⟨x, hx⟩ : ∃ x, C[j]? = some x := ⟨C[j]'(by have := HN.out; omega), by simp⟩
      have htk : C.take (j + 1) = C.take j ++ [x] := by rw [List.take_add_one, hx]; rfl
      have hi1 : j < S.size := by omega
      have g0 : S[j].toNat = x.toNat := by
        have h := HS.out; subst h
        have : (txt C)[j] = x := (List.getElem?_eq_some_iff.1 hx).2
        rw [this]
      obtain ⟨xn, hxn⟩ : ∃ y, y = x.toNat := ⟨_, rfl⟩
      rw [← hxn] at g0
      have hx256 : xn < 256 := by rw [hxn]; exact x.toNat_lt
      have HXN := Lib.hid hxn
      have HTK := Lib.hid htk
      have HX := Lib.hid hx
      have w1 : (0 : Int) ≤ (j : Int) + 1 := by omega
      have w2 : (j : Int) + 1 ≤ (n : Int) := by omega
      clear hx hxn htk
      have hlen := splC_len c (C.take j)
      have hcnt : (C.take j).count c ≤ j := Nat.le_trans List.count_le_length (by rw [List.length_take]; omega)
      obtain ⟨m, hm⟩ : ∃ m, m = (splC c (C.take j)).length := ⟨_, rfl⟩
      have hP1 := HP.out.1
      rw [← hm] at hP1
      obtain ⟨va, vc, rfl, hvc, hvm, hva⟩ := hP1.form
      have HP1 := Lib.hid hP1
      have HP2 := Lib.hid HP.out.2
      have HM := Lib.hid hm
      have hm1 : 1 ≤ m := by omega
      have hm2 : m ≤ 1048577 := by omega
      clear hlen hcnt hm hP1 HP
      by_cases hxc : xn = cc
      · have hxx : x = c := UInt8.toNat_inj.1 (by rw [← HXN.out, hxc, HCC.out])
        subst hxc
        have hD : ∃ X, X = wr.alloc (.cells #[.string ⟨#[]⟩] 9) := ⟨_, rfl⟩
        clear hD
        go_wp2_with (at_builtin; refine wpList_append_row _ rfl (.tmp 19) (.tmp 20) 41 rfl 9 i0 _ 1 16 Tryz.underlying41 hi hz0 hz1 hz2 rfl (by omega) (.slice va m vc) m (encS (splC c (C.take j))) rfl (HP1.out.keep (fun g hg => by have := HP1.out.lt g hg; exact Below.heap_alloc wr _ g this)) ⟨wr.heap.size, 0, none⟩ 1 1 [.string ⟨#[]⟩] rfl rfl (news_alloc wr _ _ rfl) (by simp [Value.oneCell']) (by omega) (by unfold maxLen; omega) (by omega) _ rfl ?_; intro g6 off cap w6 hrow hg hat)
        have e : splC c (C.take (j + 1)) = splC c (C.take j) ++ [[]] := by rw [HTK.out, hxx, splC_snoc_hit]
        refine ⟨⟨j + 1, by go_num, by omega, ?_, (hB.alloc (by omega) _).grown hg (by simp; omega) (fun y hy => HP2.out y hy)⟩, by simp [intOf]; omega⟩
        show PiecesAt _ _ _ _
        rw [e]
        refine ⟨?_, fun g hg' => ?_⟩
        · rw [List.length_append, List.length_singleton, ← HM.out, encS_append]; exact hrow
        · simp only [Value.ownBlock, Option.some.injEq] at hg'
          subst hg'
          rcases hat with h | h
          · exact HP2.out _ h
          · rw [h]; simp; omega
      · have hxx : x ≠ c := fun e => hxc (by rw [HXN.out, HCC.out, e])
        obtain ⟨a, p, e1, e2⟩ := splC_snoc_miss hxx (C.take j)
        rw [← HTK.out] at e2
        have hpl : p.length ≤ 1048576 := by
          have h1 := splC_piece c (C.take j) p (by rw [e1]; simp)
          have h2 : (C.take j).length ≤ j := by rw [List.length_take]; omega
          omega
        obtain ⟨q, hq⟩ : ∃ q, q = a.length := ⟨_, rfl⟩
        have hmq : m = q + 1 := by rw [HM.out, e1, List.length_append, ← hq]; rfl
        subst hmq
        obtain ⟨T, hT⟩ : ∃ T, T = txt p := ⟨_, rfl⟩
        obtain ⟨T2, hT2⟩ : ∃ T2, T2 = txt (p ++ [x]) := ⟨_, rfl⟩
        obtain ⟨g, o, rfl, hcl, hfz, hgl⟩ := HP1.out.cells (by omega)
        have f0 : wr.cell? ⟨g, o + q, none⟩ = some (.string T) := by
          rw [hcl q (by omega), e1, hT]
          exact encS_at _ _ _ (by rw [hq, List.getElem?_append_right (Nat.le_refl _), Nat.sub_self]; rfl)
        have ff := hfz (o + q)
        have had : ∀ W : World, (Op.stringOp .add T (S.extract j (j + 1))).run Tryz.prog W = .ok (.string T2) W := fun W => by
          have e : S.extract j (j + 1) = txt [x] := by
            rw [HS.out, extract_list]
            congr 1
            rw [HTK.out]
            exact List.drop_left' (by rw [List.length_take]; have := HN.out; omega)
          rw [e, hT, run_string_add_sum (P := Tryz.prog) W _ _ (by rw [txt_size, txt_size]; simp; omega), txt_add, hT2]
        have HE1 := Lib.hid e1
        have HE2 := Lib.hid e2
        have HQ := Lib.hid hq
        have HT2 := Lib.hid hT2
        have hb1 : ((xn : Int) == (cc : Int)) = false := by simp; omega
        have hb2 : (xn == cc) = false := by simp; omega
        clear e1 e2 hq hT hT2 hcl hfz hxx
        go_wp2_with fail
        go_region
        go_wp2_with fail
        refine ⟨⟨j + 1, by go_num, by omega, ?_, (hB.setCell (p := ⟨g, o + q, none⟩) (HP2.out g rfl) _).drew⟩, by simp [intOf]; omega⟩
        show PiecesAt _ _ _ _
        rw [HE2.out]
        refine PiecesAt.drew ⟨?_, HP2.out⟩
        have hst := HP1.out.stored q (.string T2)
        rw [HE1.out, HT2.out, encS_set] at hst
        have e1 : (a ++ [p]).set q (p ++ [x]) = a ++ [p ++ [x]] := by
          rw [HQ.out, List.set_append_right _ _ (Nat.le_refl _), Nat.sub_self]; rfl
        have e2 : (a ++ [p ++ [x]]).length = q + 1 := by rw [List.length_append, ← HQ.out]; rfl
        rw [e1] at hst
        rw [e2, HT2.out]
        exact hst
    · obtain rfl : j = n := by omega
      have hw : C.take j = C := by rw [HN.out, List.take_length]
      rw [hw] at HP
      obtain ⟨m, hm⟩ : ∃ m, m = (splC c C).length := ⟨_, rfl⟩
      have hP1 := HP.out.1
      rw [← hm] at hP1
      obtain ⟨va, vc, rfl, -⟩ := hP1.form
      have HP3 := Lib.hid HP.out
      clear HP hP1 hw hm
      go_wp2_with fail
      go_ret
      exact ⟨_, rfl, hB, HP3.out⟩
end Go.Proofs.YtdmamecfmfhlmaaGreatDoor
