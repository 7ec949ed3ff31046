/-
  rule.Read: the rule of a text.
-/
import Derived.Test.YtdmamecfmfhlmaaGreatDoorZSpeechWrites27
namespace Go.Proofs.YtdmamecfmfhlmaaGreatDoor
set_option maxRecDepth 100000
open Go.RowKit

/-- What a text is read as: a rule and OK, or none and an error. -/
def readT (b : Int) (s1 : List UInt8) : (Int × Int) × Int := match s1 with
  | c :: d :: r => if c.toNat = 47 ∧ d.toNat = 83 then
      (if (maskF r (-1) 0).2 = [] then (if goodF b (maskF r (-1) 0).1 then ((b, (maskF r (-1) 0).1), 0) else ((0, 0), 4)) else ((0, 0), 2)) else ((0, 0), 2)
  | _ => ((0, 0), 2)
def readF (l : List UInt8) : (Int × Int) × Int := match l with
  | [] => ((0, 0), 2)
  | c :: r => if c.toNat = 66 then readT (maskF r (-1) 0).1 (maskF r (-1) 0).2 else ((0, 0), 2)
def ReadAs (w : World) (x : (Int × Int) × Int) (e : Ending) (w' : World) : Prop :=
  e = .returned (.tuple #[.agg #[.int .i64 x.1.1, .int .i64 x.1.2], .int .i64 x.2]) ∧ Below w.heap.size w w'

set_option maxRecDepth 100000 in
set_option maxHeartbeats 1000000 in
theorem read_any (l : List UInt8) (w : World) (hl : l.length ≤ 140737488351232) :
    Calls Tryz.prog 38 #[.string (txt l)] w (ReadAs w (readF l)) := by
  cases l with
  | nil =>
    have e1 : (txt []).toList = [] := txt_toList []
    have e2 : (txt []).toList.isEmpty = true := by rw [e1]; rfl
    go_enter Tryz.func38, Tryz.ntmps38
    go_wp2_with fail
    refine bodyPost_ret (v := .tuple #[.agg #[.int .i64 0, .int .i64 0], .int .i64 2]) (by simp [results, Tryz.results38, go_sem]) rfl ⟨?_, ?_⟩
    · rfl
    · exact (Below.refl _ _).alloc (Nat.le_refl _) _
  | cons c r =>
    obtain ⟨S, hS, s1, s2, s3, s4, s5, s6⟩ := txt_cons c r
    rw [← hS]
    have hlr : r.length + 1 ≤ 140737488351232 := hl
    obtain ⟨n, hn⟩ : ∃ n, n = c.toNat := ⟨_, rfl⟩
    have hlt := c.toNat_lt
    rw [← hn] at s6 hlt
    have HS := Lib.hid hS
    have HN := Lib.hid hn
    clear hS hn hl
    by_cases c1 : n = 66
    · subst c1
      go_enter Tryz.func38, Tryz.ntmps38
      go_wp2_with fail
      refine (mask_any r _).mono ?_
      rintro e w1 ⟨rfl, rfl⟩
      obtain ⟨M, hM⟩ : ∃ M, M = maskF r (-1) 0 := ⟨_, rfl⟩
      rw [← hM]
      obtain ⟨B, q⟩ := M
      have hF : readF (c :: r) = readT B q := by have hn := HN.out; rw [readF, if_pos (by omega), ← hM]
      have HF := Lib.hid hF
      clear hF hM
      have B0 : Below w.heap.size w ((w.alloc (.cells #[.int .i64 0, .int .i64 0] 23)).alloc (.cells #[.int .i64 B, .int .i64 0] 23)) := ((Below.refl _ _).alloc (Nat.le_refl _) _).alloc (by simp) _
      match q with
      | [] =>
        have z0 : (txt []).size = 0 := rfl
        go_wp2_with fail
        refine bodyPost_ret (v := .tuple #[.agg #[.int .i64 0, .int .i64 0], .int .i64 2]) (by simp [results, Tryz.results38, go_sem]) rfl ⟨?_, ?_⟩
        · rw [HF.out]; rfl
        · exact B0
      | [x] =>
        have z0 : (txt [x]).size = 1 := rfl
        go_wp2_with fail
        refine bodyPost_ret (v := .tuple #[.agg #[.int .i64 0, .int .i64 0], .int .i64 2]) (by simp [results, Tryz.results38, go_sem]) rfl ⟨?_, ?_⟩
        · rw [HF.out]; rfl
        · exact B0
      | x :: y :: t =>
        obtain ⟨Q, hQ⟩ : ∃ Q, Q = txt (x :: y :: t) := ⟨_, rfl⟩
        obtain ⟨n2, hn2⟩ : ∃ n2, n2 = t.length + 2 := ⟨_, rfl⟩
        have z0 : Q.size = n2 := by rw [hQ, txt_size, hn2]; rfl
        have z1 : ¬ ((n2 : Int) < 2) := by omega
        have z2 : (2 : Int) ≤ n2 := by omega
        have z3 : Q.extract 2 n2 = txt t := by rw [hQ, extract_list, hn2]; simp
        have z4 := two_eq x y t 47 83
        rw [← hQ] at z4 ⊢
        clear hQ hn2
        by_cases hxy : x.toNat = 47 ∧ y.toNat = 83
        · have z5 : ((Q.extract 0 2).toList == [47, 83]) = true := by rw [z4]; exact decide_eq_true hxy
          have HX := Lib.hid hxy
          clear z4 hxy
          go_wp2_with fail
          refine (mask_any t _).mono ?_
          rintro e w1 ⟨rfl, rfl⟩
          obtain ⟨M, hM⟩ : ∃ M, M = maskF t (-1) 0 := ⟨_, rfl⟩
          rw [← hM]
          obtain ⟨V, q2⟩ := M
          have hF2 : readT B (x :: y :: t) = if q2 = [] then (if goodF B V then ((B, V), 0) else ((0, 0), 4)) else ((0, 0), 2) := by rw [readT, if_pos HX.out, ← hM]
          have HF2 := Lib.hid hF2
          clear hF2 hM
          cases q2 with
          | nil =>
            have e1 : (txt []).toList = [] := txt_toList []
            have e2 : (txt []).toList.isEmpty = true := by rw [e1]; rfl
            have hF3 : readT B (x :: y :: t) = if goodF B V then ((B, V), 0) else ((0, 0), 4) := by rw [HF2.out]; simp
            have HF3 := Lib.hid hF3
            clear hF3 HF2
            go_wp2_with fail
            refine (good_any B V _).mono ?_
            rintro e w2 ⟨rfl, hb2⟩
            have B1 : Below w.heap.size w ((w.alloc (.cells #[.int .i64 0, .int .i64 0] 23)).alloc (.cells #[.int .i64 B, .int .i64 V] 23)) := ((Below.refl _ _).alloc (Nat.le_refl _) _).alloc (by simp) _
            have B2 := B1.trans (hb2.mono B1.size)
            have hz2 := hb2.size
            simp only [World.size_alloc] at hz2
            have k0 : w2.heap[w.heap.size]? = some (.cells #[.int .i64 0, .int .i64 0] 23 (0, 0)) := by rw [hb2.block _ (by simp; omega)]; exact blk_alloc (blk_last w _ rfl) _
            have k1 : w2.heap[w.heap.size + 1]? = some (.cells #[.int .i64 B, .int .i64 V] 23 (0, 0)) := by rw [hb2.block _ (by simp)]; exact blk_last _ _ (by simp)
            have p0 := Joins.cell_of_block k0 0
            have p1 := Joins.cell_of_block k0 1
            have q0 := Joins.cell_of_block k1 0
            have q1 := Joins.cell_of_block k1 1
            have f0 := Joins.unfrozen_of_block k0 0
            have f1 := Joins.unfrozen_of_block k0 1
            have l0 : w.heap.size < w2.heap.size := by omega
            have l1 : w.heap.size + 1 < w2.heap.size := by omega
            obtain ⟨g, hg⟩ : ∃ g, goodF B V = g := ⟨_, rfl⟩
            rw [hg]
            cases g with
            | true =>
              go_wp2_with fail
              refine bodyPost_ret (v := .tuple #[.agg #[.int .i64 B, .int .i64 V], .int .i64 0]) (by simp [results, Tryz.results38, go_sem, p0, p1]) rfl ⟨?_, ?_⟩
              · rw [HF.out, HF3.out, hg]; rfl
              · exact (B2.setCell (by simp) _).setCell (by simp) _
            | false =>
              go_wp2_with fail
              refine bodyPost_ret (v := .tuple #[.agg #[.int .i64 0, .int .i64 0], .int .i64 4]) (by simp [results, Tryz.results38, go_sem, p0, p1]) rfl ⟨?_, ?_⟩
              · rw [HF.out, HF3.out, hg]; rfl
              · exact (B2.setCell (by simp) _).setCell (by simp) _
          | cons x2 q3 =>
            obtain ⟨S2, hS2, y1, y2, y3, y4, y5, y6⟩ := txt_cons x2 q3
            rw [← hS2]
            clear hS2
            have hF3 : readT B (x :: y :: t) = ((0, 0), 2) := by rw [HF2.out]; simp
            have HF3 := Lib.hid hF3
            clear hF3 HF2
            go_wp2_with fail
            refine bodyPost_ret (v := .tuple #[.agg #[.int .i64 0, .int .i64 0], .int .i64 2]) (by simp [results, Tryz.results38, go_sem]) rfl ⟨?_, ?_⟩
            · rw [HF.out, HF3.out]
            · exact ((Below.refl _ _).alloc (Nat.le_refl _) _).alloc (by simp) _
        · have z5 : ((Q.extract 0 2).toList == [47, 83]) = false := by rw [z4]; exact decide_eq_false hxy
          have HX := Lib.hid hxy
          clear z4 hxy
          go_wp2_with fail
          refine bodyPost_ret (v := .tuple #[.agg #[.int .i64 0, .int .i64 0], .int .i64 2]) (by simp [results, Tryz.results38, go_sem]) rfl ⟨?_, ?_⟩
          · rw [HF.out, readT, if_neg HX.out]
          · exact B0
    · have c1' : ¬ (n : Int) = 66 := by omega
      go_enter Tryz.func38, Tryz.ntmps38
      go_wp2_with fail
      refine bodyPost_ret (v := .tuple #[.agg #[.int .i64 0, .int .i64 0], .int .i64 2]) (by simp [results, Tryz.results38, go_sem]) rfl ⟨?_, ?_⟩
      · have hn := HN.out
        rw [readF, if_neg (by omega)]
      · exact (Below.refl _ _).alloc (Nat.le_refl _) _
end Go.Proofs.YtdmamecfmfhlmaaGreatDoor
