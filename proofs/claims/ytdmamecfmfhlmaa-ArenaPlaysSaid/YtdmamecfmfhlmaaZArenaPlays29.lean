/-
  ref.Store's Squares; Two arrays of four numbers: equal or not.
-/
import Derived.Test.YtdmamecfmfhlmaaZArenaPlays28
import Derived.Test.YtdmamecfmfhlmaaZArenaPlays6
namespace Go.Proofs.Ytdmamecfmfhlmaa
set_option maxRecDepth 100000
open Go.RowKit

def squaresR (S : RSt) : List (Nat × Ent) := S.T.filter fun p => decide (p.2.k = 0)
/-- The squares among the first k things. -/
def sqrs (T : List (Nat × Ent)) (k : Nat) : List (Nat × Ent) := (T.take k).filter fun p => decide (p.2.k = 0)
theorem sqrs_snoc {T : List (Nat × Ent)} {k : Nat} {p : Nat × Ent} (hp : T[k]? = some p) : sqrs T (k + 1) = sqrs T k ++ if p.2.k = 0 then [p] else [] := by
  unfold sqrs
  rw [List.take_add_one, hp, List.filter_append]
  by_cases h : p.2.k = 0 <;> simp [h]
theorem sqrs_len (T : List (Nat × Ent)) (k : Nat) : (sqrs T k).length ≤ k := Nat.le_trans (List.length_filter_le _ _) (by rw [List.length_take]; omega)
structure SqrSt (T : List (Nat × Ent)) (k B : Nat) (v : Value) (w : World) : Prop where
  row : Row w 116 7 v (sqrs T k).length ((sqrs T k).flatMap encSq)
  new : ∀ q, v.ownBlock = some q → B ≤ q
set_option maxHeartbeats 4000000 in
set_option maxRecDepth 100000 in
theorem squaresR_any (b : Nat) (S : RSt) (arr : Array Value) (v1 : Value) (vs : List Value) (F : Nat → Prop) (w : World) (h : ReAt b S arr v1 vs w F) :
    Calls Try.prog 31 #[.pointer (some ⟨b, 0, none⟩)] w fun e w' => ∃ v, e = .returned v ∧ Row w' 116 7 v (squaresR S).length ((squaresR S).flatMap encSq) ∧ (∀ q, v.ownBlock = some q → w.heap.size ≤ q) ∧ Below w.heap.size w w' := by
  obtain ⟨i0, hi, hz0, hz1, hz2⟩ := info_parts infoSq
  obtain ⟨a, c, hv, hc, hm, ha⟩ := h.list.form
  have d1 := (h.cell 1).trans h.c1
  have hfew := h.few
  have hbw := lt_of_block h.own
  obtain ⟨N, hN⟩ : ∃ N, N = S.T.length := ⟨_, rfl⟩
  rw [← hN] at hv hc hfew
  rw [hv] at d1
  have HH := Lib.hid h
  have HN := Lib.hid hN
  have HV := Lib.hid hv
  have HS0 : Aside (SqrSt S.T 0 w.heap.size (.slice none 0 0) w) := ⟨Row.nil _ _ _, fun q hq => by simp [Value.ownBlock] at hq⟩
  clear h hv hN ha hc hm
  go_enter Try.func31, Try.ntmps31
  go_wp2_with fail
  go_loopw [3, 5, 11] (fun v _ iv ws => ∃ k : Nat, iv = .int .i64 k ∧ k ≤ N ∧ Aside (SqrSt S.T k w.heap.size v ws) ∧ Below w.heap.size w ws) (fun _ _ iv _ => N - (intOf iv).toNat)
  case atStart => exact ⟨0, rfl, Nat.zero_le _, HS0, Below.refl _ _⟩
  case round =>
    obtain ⟨k, rfl, hkN, HR, hbl⟩ := hrel
    by_cases hk : k < N
    · obtain ⟨p, hp⟩ : ∃ p, S.T[k]? = some p := ⟨_, List.getElem?_eq_getElem (by rw [← HN.out]; exact hk)⟩
      obtain ⟨q, o, c', hv', hFq, hqb, hcl, hfz⟩ := (HH.out.below hbl).thing hp
      rw [HV.out] at hv'
      simp only [Value.slice.injEq] at hv'
      obtain ⟨rfl, hNN, rfl⟩ := hv'
      have c0 := hcl 0 (by omega)
      have c1 := hcl 1 (by omega)
      have c2 := hcl 2 (by omega)
      have c3 := hcl 3 (by omega)
      have c4 := hcl 4 (by omega)
      have c5 := hcl 5 (by omega)
      have c6 := hcl 6 (by omega)
      have c7 := hcl 7 (by omega)
      have c8 := hcl 8 (by omega)
      simp only [encTh, List.getElem?_cons_zero, List.getElem?_cons_succ, Nat.add_zero] at c0 c1 c2 c3 c4 c5 c6 c7 c8
      have u1 : decide ((k : Int) < (N : Int)) = true := decide_eq_true (by omega)
      have u2 : decide (k < N) = true := decide_eq_true hk
      have HSN := Lib.hid (sqrs_snoc hp)
      have HSL := Lib.hid (sqrs_len S.T k)
      have hep : [p].flatMap encSq = encSq p := by simp
      have HEP := Lib.hid hep
      obtain ⟨p1, hp1⟩ : ∃ y, y = [p] := ⟨_, rfl⟩
      rw [← hp1] at HSN HEP
      have HP1 := Lib.hid (show p1.length = 1 by rw [hp1]; rfl)
      obtain ⟨pi, px⟩ := p
      obtain ⟨xk, xa, xb, xc, xd, xl, xv, xm⟩ := px
      simp only at c0 c1 c2 c3 c4 c5 c6 c7 c8 HSN
      rw [show encSq (pi, ⟨xk, xa, xb, xc, xd, xl, xv, xm⟩) = [.int .i64 pi, .int .i64 xl, .int .i64 xa, .int .i64 xb, .int .i64 xc, .int .i64 xd, .int .u64 xm] from rfl] at HEP
      obtain ⟨X, hX⟩ : ∃ X, X = wr.alloc (.cells #[.int .i64 pi, .int .i64 xk, .int .i64 xl, .int .i64 xv, .int .i64 xa, .int .i64 xb, .int .i64 xc, .int .i64 xd, .int .u64 xm] 118 (0, 0)) := ⟨_, rfl⟩
      have hbX : Below wr.heap.size wr X := by rw [hX]; exact (Below.refl _ _).alloc (Nat.le_refl _) _
      have hX0 : X.heap[wr.heap.size]? = some (.cells #[.int .i64 pi, .int .i64 xk, .int .i64 xl, .int .i64 xv, .int .i64 xa, .int .i64 xb, .int .i64 xc, .int .i64 xd, .int .u64 xm] 118 (0, 0)) := by rw [hX]; exact blk_last wr _ rfl
      have HSX : Aside (SqrSt S.T k w.heap.size _ X) := ⟨HR.out.row.keep fun q hq => hbX.block q (HR.out.row.lt q hq), HR.out.new⟩
      have HB1 := Lib.hid (hbl.trans (hbX.mono hbl.size))
      have HXE := Lib.hid hX
      clear hp hcl hfz hFq hqb hNN hbl hep hp1 hbX hX
      by_cases hm : xk = 0
      · have g1 : (xk == 0) = true := by simpa using hm
        have f0 := Joins.cell_of_block hX0 0
        have f1 := Joins.cell_of_block hX0 1
        have f2 := Joins.cell_of_block hX0 2
        have f3 := Joins.cell_of_block hX0 3
        have f4 := Joins.cell_of_block hX0 4
        have f5 := Joins.cell_of_block hX0 5
        have f6 := Joins.cell_of_block hX0 6
        have f7 := Joins.cell_of_block hX0 7
        have f8 := Joins.cell_of_block hX0 8
        simp at f0 f1 f2 f3 f4 f5 f6 f7 f8
        have HSN2 := Lib.hid (show sqrs S.T (k + 1) = sqrs S.T k ++ p1 by rw [HSN.out, if_pos hm])
        obtain ⟨a3, c3', hv3, -⟩ := HSX.out.row.form
        obtain ⟨n3, hn3⟩ : ∃ n, n = (sqrs S.T k).length := ⟨_, rfl⟩
        have hrow := HSX.out.row
        rw [hv3, ← hn3] at hrow
        have hn3b : n3 ≤ 200002 := by rw [hn3]; exact Nat.le_trans HSL.out (by omega)
        rw [← hn3] at hv3
        have HN3 := Lib.hid hn3
        have hrow7 : Row (X.alloc (.cells #[.int .i64 pi, .int .i64 xl, .int .i64 xa, .int .i64 xb, .int .i64 xc, .int .i64 xd, .int .u64 xm] 116 (0, 0))) 116 7 (.slice a3 n3 c3') n3 ((sqrs S.T k).flatMap encSq) := hrow.keep fun q hq => Below.heap_alloc X _ q (hrow.lt q hq)
        have HR7 := Lib.hid hrow7
        have M3 := Lib.hid (show n3 + 1 ≤ maxLen by unfold maxLen; omega)
        have M4 := Lib.hid (show (n3 + 1) * 56 ≤ 140737488355328 by omega)
        rw [hv3]
        have HV3 := Lib.hid hv3
        clear hrow hrow7 hn3 hv3 hm hX0
        go_upto_region 5 with fail
        rw [← HXE.out]
        go_wp2_with ((at_builtin; go_loud (refine wpList_append_row _ rfl (.tmp 18) (.tmp 28) 71 rfl 116 i0 _ 7 56 Try.underlying71 hi hz0 hz1 hz2 rfl (by omega) (.slice a3 n3 c3') n3 ((sqrs S.T k).flatMap encSq) rfl HR7.out ⟨X.heap.size, 0, none⟩ 1 1 [.int .i64 pi, .int .i64 xl, .int .i64 xa, .int .i64 xb, .int .i64 xc, .int .i64 xd, .int .u64 xm] rfl rfl (news_alloc X _ _ rfl) (by simp [Value.oneCell']) (by omega) M3.out M4.out _ rfl ?_; intro g6 off cap w6 hrow hg hat)))
        have hnew := HSX.out.new
        rw [HV3.out] at hnew
        have hwX := HB1.out.size
        have hg6 : w.heap.size ≤ g6 := by
          rcases hat with e | e
          · exact hnew g6 e
          · rw [e]; simp; omega
        refine ⟨⟨k + 1, by go_num, hk, ⟨?_, fun q hq => ?_⟩, ?_⟩, by simp [intOf]; omega⟩
        · rw [HSN2.out, List.length_append, HP1.out, ← HN3.out, List.flatMap_append, HEP.out]
          exact hrow
        · obtain rfl : g6 = q := by simpa [Value.ownBlock] using hq
          exact hg6
        · have h8 := HB1.out.alloc hwX (.cells #[.int .i64 pi, .int .i64 xl, .int .i64 xa, .int .i64 xb, .int .i64 xc, .int .i64 xd, .int .u64 xm] 116 (0, 0))
          exact h8.trans ((Keeps.grown (F := fun q => w.heap.size ≤ q) (Keeps.refl _ _) hg fun q hq _ => hnew q hq).toBelow (fun _ h => h) h8.size)
      · have g1 : (xk == 0) = false := by simpa using hm
        have HNX : Aside (SqrSt S.T (k + 1) w.heap.size _ X) := ⟨by rw [HSN.out, if_neg hm, List.append_nil]; exact HSX.out.row, HSX.out.new⟩
        have f8 := Joins.cell_of_block hX0 1
        simp at f8
        clear hm hX0
        go_upto_region 5 with fail
        rw [← HXE.out]
        go_wp2_with fail
        exact ⟨⟨k + 1, by go_num, hk, HNX, HB1.out⟩, by simp [intOf]; omega⟩
    · have u1 : decide ((k : Int) < (N : Int)) = false := decide_eq_false (by omega)
      have u2 : decide (k < N) = false := decide_eq_false hk
      have hall : sqrs S.T k = squaresR S := by
        unfold sqrs squaresR
        rw [List.take_of_length_le (by rw [← HN.out]; omega)]
      have HE := Lib.hid hall
      have HBL := Lib.hid hbl
      clear hall hbl
      go_wp2_with fail
      go_ret
      refine ⟨_, rfl, ?_, HR.out.new, HBL.out⟩
      rw [← HE.out]
      exact HR.out.row
end Go.Proofs.Ytdmamecfmfhlmaa
namespace Go.Proofs.Ytdmamecfmfhlmaa
set_option maxRecDepth 100000
open Go.RowKit

theorem eq4 (a b c d a' b' c' d' : Int) (h : I64 a ∧ I64 b ∧ I64 c ∧ I64 d) (h' : I64 a' ∧ I64 b' ∧ I64 c' ∧ I64 d') (w : World) :
    (Op.equalIn 10000 61 (.agg #[.int .i64 a, .int .i64 b, .int .i64 c, .int .i64 d]) (.agg #[.int .i64 a', .int .i64 b', .int .i64 c', .int .i64 d'])).run Try.prog w = .ok (decide (a = a' ∧ b = b' ∧ c = c' ∧ d = d')) w := by
  have e3 : Try.prog.cellsOf 61 = 4 := by kernel_rfl
  have e4 : Try.prog.cellsOf 3 = 1 := by kernel_rfl
  have e2 : ∀ x0 x1 x2 x3 : Int, Value.formed Try.prog 61 (.agg #[.int .i64 x0, .int .i64 x1, .int .i64 x2, .int .i64 x3]) = true := fun _ _ _ _ => by kernel_rfl
  have wf : ∀ n, I64 n → (Lit.int .i64 n).wf = true := fun n hn => WalkArith.wf_i64 (by unfold I64 at hn; omega)
  have li : ∀ d n, I64 n → Try.prog.keyLits (d + 1) 3 [.int .i64 n] = some [.int .i64 n] := fun d n hn => by
    simp [Program.keyLits, Try.underlying3, wf n hn]
  have la : ∀ d x1 x2 x3 x4, I64 x1 → I64 x2 → I64 x3 → I64 x4 → Try.prog.keyLits (d + 2) 61 [.int .i64 x1, .int .i64 x2, .int .i64 x3, .int .i64 x4] = some [.int .i64 x1, .int .i64 x2, .int .i64 x3, .int .i64 x4] := fun d x1 x2 x3 x4 h1 h2 h3 h4 => by
    simp [Program.keyLits, Try.underlying61, Try.underlying3, e3, e4, show List.range 4 = [0, 1, 2, 3] from rfl, wf x1 h1, wf x2 h2, wf x3 h3, wf x4 h4]
  obtain ⟨h1, h2, h3, h4⟩ := h
  obtain ⟨g1, g2, g3, g4⟩ := h'
  have hk : Try.prog.keyTypeAt 2 61 = true := by kernel_rfl
  obtain ⟨r, hr, hiff⟩ := run_equalIn_deep (P := Try.prog) 9998 2 61 hk w 2 2 _ _ _ _ (e2 a b c d) (e2 a' b' c' d') (la 0 a b c d h1 h2 h3 h4) (la 0 a' b' c' d' g1 g2 g3 g4)
  rw [show (10000 : Nat) = 9998 + 2 from rfl, hr]
  congr 1
  have : r = true ↔ (a = a' ∧ b = b' ∧ c = c' ∧ d = d') := by rw [hiff]; simp
  cases r with
  | true => rw [decide_eq_true (this.1 rfl)]
  | false => rw [decide_eq_false (fun e => by have := this.2 e; cases this)]
end Go.Proofs.Ytdmamecfmfhlmaa
