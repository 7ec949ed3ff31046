/-
  arena's Squares.
-/
import Derived.Test.YtdmamecfmfhlmaaZArenaPlaysArClean
import Derived.Test.YtdmamecfmfhlmaaZArenaPlaysArSweep
namespace Go.Proofs.Ytdmamecfmfhlmaa
set_option maxRecDepth 100000
open Go.RowKit

/-- The squares that have numbers from 2 up to k. -/
def sqAt (L : List (Option Ent)) (i : Nat) : List (Nat × Ent) := match atL L i with
  | none => []
  | some x => if x.k = 0 then [(i, x)] else []
def sqTo (L : List (Option Ent)) (k : Nat) : List (Nat × Ent) := (List.range' 2 (k - 2)).flatMap (sqAt L)
theorem sqTo_snoc {L : List (Option Ent)} {k : Nat} (h : 2 ≤ k) : sqTo L (k + 1) = sqTo L k ++ sqAt L k := by
  unfold sqTo
  have e : k + 1 - 2 = (k - 2) + 1 := by omega
  have e2 : 2 + 1 * (k - 2) = k := by omega
  rw [e, List.range'_concat, List.flatMap_append, e2]
  simp
def squaresA (S : ArS) : List (Nat × Ent) := sqTo S.L S.L.length
def encSq (p : Nat × Ent) : List Value := [.int .i64 p.1, .int .i64 p.2.lv, .int .i64 p.2.a, .int .i64 p.2.b, .int .i64 p.2.c, .int .i64 p.2.d, .int .u64 p.2.ma]
theorem infoSq : (Try.prog.info? 116).map (fun i => (i.zero, i.size, i.bytes)) = some (some (.agg #[.int .i64 0, .int .i64 0, .int .i64 0, .int .i64 0, .int .i64 0, .int .i64 0, .int .u64 0]), 7, 56) := by kernel_rfl
theorem sqAt_no {S : ArS} (ok : ArOk S) {k : Nat} {u : Option Ent} (hu : S.L[k]? = some u) {okb : Bool} {atn : Nat} (h1 : okb = (findK S.L (u.getD zeroE).key).isSome) (h2 : atn = (findK S.L (u.getD zeroE).key).getD 0) (h : okb = false ∨ atn ≠ k ∨ (u.getD zeroE).k ≠ 0) : sqAt S.L k = [] := by
  unfold sqAt
  cases hx : atL S.L k with
  | none => rfl
  | some x =>
    have hux : u = some x := by
      have := atL_some.1 hx
      rw [hu] at this
      exact Option.some.inj this
    subst hux
    have hf : findK S.L x.key = some k := (findK_iff ok).2 ⟨x, hx, rfl⟩
    simp only [Option.getD_some] at h1 h2 h
    rw [hf] at h1 h2
    simp only [Option.isSome_some, Option.getD_some] at h1 h2
    rcases h with h | h | h
    · rw [h1] at h; cases h
    · exact absurd h2 h
    · simp only [if_neg h]
theorem sqAt_yes {S : ArS} (ok : ArOk S) {k : Nat} {u : Option Ent} (hu : S.L[k]? = some u) (h1 : (findK S.L (u.getD zeroE).key).isSome = true) (h2 : (findK S.L (u.getD zeroE).key).getD 0 = k) (h3 : (u.getD zeroE).k = 0) : sqAt S.L k = [(k, u.getD zeroE)] := by
  cases hf : findK S.L (u.getD zeroE).key with
  | none => rw [hf] at h1; cases h1
  | some j =>
    rw [hf] at h2
    obtain rfl : j = k := h2
    obtain ⟨z, hz, _⟩ := (findK_iff ok).1 hf
    have hux : u = some z := by
      have := atL_some.1 hz
      rw [hu] at this
      exact Option.some.inj this
    subst hux
    simp only [Option.getD_some] at h3 ⊢
    unfold sqAt
    rw [hz]
    simp only [if_pos h3]
theorem sqTo_len {L : List (Option Ent)} : ∀ k, (sqTo L k).length ≤ k := by
  intro k
  unfold sqTo
  have : ∀ l : List Nat, (l.flatMap (sqAt L)).length ≤ l.length := fun l => by
    induction l with
    | nil => simp
    | cons a l ih =>
      rw [List.flatMap_cons, List.length_append, List.length_cons]
      have : (sqAt L a).length ≤ 1 := by
        unfold sqAt
        split
        · simp
        · split <;> simp
      omega
  have := this (List.range' 2 (k - 2))
  rw [List.length_range'] at this
  omega
/-- What was found so far. -/
structure SqSt (L : List (Option Ent)) (k B : Nat) (v : Value) (w : World) : Prop where
  row : Row w 116 7 v (sqTo L k).length ((sqTo L k).flatMap encSq)
  new : ∀ q, v.ownBlock = some q → B ≤ q
theorem SqSt.skip {L : List (Option Ent)} {k B : Nat} {v : Value} {w : World} (h : SqSt L k B v w) (e : sqTo L (k + 1) = sqTo L k) : SqSt L (k + 1) B v w := ⟨by rw [e]; exact h.row, h.new⟩
set_option maxHeartbeats 4000000 in
set_option maxRecDepth 100000 in
theorem squares_any (b : Nat) (S : ArS) (F : Nat → Prop) (w : World) (h : IsAr b S w F) :
    Calls Try.prog 30 #[.pointer (some ⟨b, 0, none⟩)] w fun e w' => ∃ v, e = .returned v ∧ Row w' 116 7 v (squaresA S).length ((squaresA S).flatMap encSq) ∧ (∀ q, v.ownBlock = some q → w.heap.size ≤ q) ∧ Below w.heap.size w w' := by
  obtain ⟨i0, hi, hz0, hz1, hz2⟩ := info_parts infoSq
  have hok := h.ok
  have hlong : S.L.length ≤ 200002 := by have := hok.long; have := hok.room; omega
  have HO := Lib.hid h
  have HOK := Lib.hid hok
  obtain ⟨N, hN⟩ : ∃ N, N = S.L.length := ⟨_, rfl⟩
  rw [← hN] at hlong
  have HN := Lib.hid hN
  have HS0 : Aside (SqSt S.L 2 w.heap.size (.slice none 0 0) w) := ⟨Row.nil _ _ _, fun q hq => by simp [Value.ownBlock] at hq⟩
  have h2N : 2 ≤ N := by rw [hN]; exact hok.two
  clear h hok hN
  go_enter Try.func30, Try.ntmps30
  go_wp2_with fail
  go_loopw [3, 4, 5, 6, 7] (fun v iv _ _ _ ws => ∃ k : Nat, iv = .int .i64 k ∧ 2 ≤ k ∧ k ≤ N ∧ Aside (SqSt S.L k w.heap.size v ws) ∧ Below w.heap.size w ws) (fun _ iv _ _ _ _ => N - (intOf iv).toNat)
  case atStart => exact ⟨2, rfl, Nat.le_refl _, h2N, HS0, Below.refl _ _⟩
  case round =>
    obtain ⟨k, rfl, h2k, hkN, HR, hbl⟩ := hrel
    have hI := HO.out.below hbl
    obtain ⟨arr, v1, v3, bm, n, fr, g, vs, hA⟩ := id hI
    obtain ⟨q, o, c, hv1, hFq, hqb, hent⟩ := hA.ents
    have c1 : wr.cell? ⟨b, 1, none⟩ = some (.slice (some ⟨q, o, none⟩) N c) := by
      have := (hA.cell 1).trans hA.c1
      rw [hv1, ← HN.out] at this; exact this
    by_cases hk : k < N
    · have hu : ∃ u, S.L[k]? = some u := ⟨_, List.getElem?_eq_getElem (by rw [← HN.out]; exact hk)⟩
      obtain ⟨u, hu⟩ := hu
      obtain ⟨x, hx⟩ : ∃ x, x = u.getD zeroE := ⟨_, rfl⟩
      have hgx : GoodA x.key := by
        rw [hx]
        cases u with
        | none => exact ⟨by show I64 0; unfold I64; omega, by show I64 0; unfold I64; omega, by show I64 0; unfold I64; omega, by show I64 0; unfold I64; omega, by show I64 0; unfold I64; omega⟩
        | some y => exact (hA.good k y (by rw [atL_some]; exact hu)).1
      have e0 := hent k u hu 0 (by omega)
      have e1 := hent k u hu 1 (by omega)
      have e2 := hent k u hu 2 (by omega)
      have e3 := hent k u hu 3 (by omega)
      have e4 := hent k u hu 4 (by omega)
      have e5 := hent k u hu 5 (by omega)
      have e6 := hent k u hu 6 (by omega)
      have e7 := hent k u hu 7 (by omega)
      simp only [encO, ← hx, encEnt, List.getElem?_cons_zero, List.getElem?_cons_succ, Nat.add_zero] at e0 e1 e2 e3 e4 e5 e6 e7
      obtain ⟨X, hXe⟩ : ∃ X, X = boxE wr x := ⟨_, rfl⟩
      have hbX : Below wr.heap.size wr X := by rw [hXe]; exact (Below.refl _ _).alloc (Nat.le_refl _) _
      have hbx0 : X.heap[wr.heap.size]? = some (.cells #[.int .i64 x.k, .int .i64 x.a, .int .i64 x.b, .int .i64 x.c, .int .i64 x.d, .int .i64 x.lv, .int .i64 x.va, .int .u64 x.ma] 86 (0, 0)) := by rw [hXe]; exact blk_last wr _ rfl
      have hAX := hA.keep (Keeps.of_below (F := fun _ => False) hbX) (fun _ _ h => h)
      have d2 : X.cell? ⟨b, 2, none⟩ = some (.map (some bm)) := (hAX.cell 2).trans hAX.c2
      have hlook := fun p => (hAX.keep ((Keeps.refl (fun _ => False) X).drewN p) (fun _ _ h => h)).look x.key hgx
      have f0 := Joins.cell_of_block hbx0 0
      have f1 := Joins.cell_of_block hbx0 1
      have f2 := Joins.cell_of_block hbx0 2
      have f3 := Joins.cell_of_block hbx0 3
      have f4 := Joins.cell_of_block hbx0 4
      simp at f0 f1 f2 f3 f4
      obtain ⟨atn, hat⟩ : ∃ a, a = (findK S.L x.key).getD 0 := ⟨_, rfl⟩
      obtain ⟨okb, hokb⟩ : ∃ a, a = (findK S.L x.key).isSome := ⟨_, rfl⟩
      unfold keyA Ent.key at hlook
      rw [show findK S.L (x.k, x.a, x.b, x.c, x.d) = findK S.L x.key from rfl, ← hat, ← hokb] at hlook
      simp only at hlook
      have hatN : atn ≤ 200002 := by
        rw [hat]
        cases hf : findK S.L x.key with
        | none => exact Nat.zero_le _
        | some j =>
          obtain ⟨z, hz, _⟩ := findK_some hf
          have := atL_lt hz
          rw [← HN.out] at this
          show j ≤ 200002
          omega
      have HNO := Lib.hid (fun h => sqAt_no HOK.out hu (okb := okb) (atn := atn) (by rw [← hx]; exact hokb) (by rw [← hx]; exact hat) h)
      have HYES := Lib.hid (fun (e1 : okb = true) (e2 : atn = k) (e3 : x.k = 0) => sqAt_yes HOK.out hu (by rw [← hx, ← hokb]; exact e1) (by rw [← hx, ← hat]; exact e2) (by rw [← hx]; exact e3))
      rw [← hx] at HNO HYES
      have HSN := Lib.hid (sqTo_snoc (L := S.L) h2k)
      have HSL := Lib.hid (sqTo_len (L := S.L) k)
      obtain ⟨ex, hex⟩ : ∃ ex, ex = encSq (k, x) := ⟨_, rfl⟩
      have HEX := Lib.hid hex
      obtain ⟨sx, hsx⟩ : ∃ y, y = [(k, x)] := ⟨_, rfl⟩
      have HSX := Lib.hid hsx
      rw [← hsx] at HYES
      have hfm : sx.flatMap encSq = encSq (k, x) ∧ sx.length = 1 := by rw [hsx]; exact ⟨by simp, rfl⟩
      rw [show encSq (k, x) = [.int .i64 k, .int .i64 x.lv, .int .i64 x.a, .int .i64 x.b, .int .i64 x.c, .int .i64 x.d, .int .u64 x.ma] from rfl] at hfm
      obtain ⟨xk, hxk⟩ : ∃ y, y = x.k := ⟨_, rfl⟩
      obtain ⟨xa, hxa⟩ : ∃ y, y = x.a := ⟨_, rfl⟩
      obtain ⟨xb, hxb⟩ : ∃ y, y = x.b := ⟨_, rfl⟩
      obtain ⟨xc, hxc⟩ : ∃ y, y = x.c := ⟨_, rfl⟩
      obtain ⟨xd, hxd⟩ : ∃ y, y = x.d := ⟨_, rfl⟩
      obtain ⟨xl, hxl⟩ : ∃ y, y = x.lv := ⟨_, rfl⟩
      obtain ⟨xv, hxv⟩ : ∃ y, y = x.va := ⟨_, rfl⟩
      obtain ⟨xm, hxm⟩ : ∃ y, y = x.ma := ⟨_, rfl⟩
      unfold boxE at hXe
      rw [← hxk] at e0 f0 hlook HNO HYES
      rw [← hxa] at e1 f1 hlook hfm
      rw [← hxb] at e2 f2 hlook hfm
      rw [← hxc] at e3 f3 hlook hfm
      rw [← hxd] at e4 f4 hlook hfm
      rw [← hxl] at e5 hfm
      rw [← hxv] at e6
      rw [← hxm] at e7 hfm
      rw [← hxk, ← hxa, ← hxb, ← hxc, ← hxd, ← hxl, ← hxv, ← hxm] at hXe hbx0
      have HXE := Lib.hid hXe
      have HBX := Lib.hid hbX
      have HB0 := Lib.hid hbx0
      have HBL := Lib.hid hbl
      have HFM := Lib.hid hfm
      have t1 : decide ((k : Int) < (N : Int)) = true := decide_eq_true (by omega)
      have t2 : decide (k < N) = true := decide_eq_true hk
      clear hXe hu hx hat hokb hbX hAX hbx0 hxk hxa hxb hxc hxd hxl hxv hxm hA hI hent hv1 hgx hex hsx hbl hfm hFq hqb
      go_upto_region 8 with fail
      rw [← HXE.out]
      go_quiet (fail)
      obtain ⟨X1, hX1⟩ : ∃ Y, Y = X.drewN nq := ⟨_, rfl⟩
      rw [← hX1]
      have hbX1 : X1.heap[wr.heap.size]? = some (.cells #[.int .i64 xk, .int .i64 xa, .int .i64 xb, .int .i64 xc, .int .i64 xd, .int .i64 xl, .int .i64 xv, .int .u64 xm] 86 (0, 0)) := by rw [hX1]; exact HB0.out
      have hB1 : Below wr.heap.size wr X1 := by
        rw [hX1]
        have h := HBX.out
        exact ⟨h.os, h.tape, h.output, h.size, h.block⟩
      have HB1 := Lib.hid hB1
      have g0 := Joins.cell_of_block hbX1 0
      have g1 := Joins.cell_of_block hbX1 1
      have g2 := Joins.cell_of_block hbX1 2
      have g3 := Joins.cell_of_block hbX1 3
      have g4 := Joins.cell_of_block hbX1 4
      have g5 := Joins.cell_of_block hbX1 5
      have g7 := Joins.cell_of_block hbX1 7
      simp at g0 g1 g2 g3 g4 g5 g7
      have HSQ : Aside (SqSt S.L k w.heap.size _ X1) := ⟨HR.out.row.keep fun q hq => hB1.block q (HR.out.row.lt q hq), HR.out.new⟩
      have HBB := Lib.hid (HBL.out.trans (hB1.mono HBL.out.size))
      clear hX1 hB1 hbX1 hlook f0 f1 f2 f3 f4 d2 e0 e1 e2 e3 e4 e5 e6 e7 c1
      cases okb with
      | false =>
        have HNX : Aside (SqSt S.L (k + 1) w.heap.size _ X1) := SqSt.skip HSQ.out (by rw [HSN.out, HNO.out (.inl rfl), List.append_nil])
        go_wp2_with fail
        refine ⟨⟨k + 1, by go_num, by omega, hk, HNX, HBB.out⟩, by simp [intOf]; omega⟩
      | true =>
        by_cases hak : atn = k
        · subst hak
          by_cases hx0 : xk = 0
          · subst hx0
            have HYE := Lib.hid (HYES.out rfl rfl rfl)
            obtain ⟨a3, c3, hv3, -⟩ := HSQ.out.row.form
            obtain ⟨n3, hn3⟩ : ∃ n, n = (sqTo S.L atn).length := ⟨_, rfl⟩
            have hrow := HSQ.out.row
            rw [hv3, ← hn3] at hrow
            have hn3b : n3 ≤ 200002 := by rw [hn3]; exact Nat.le_trans HSL.out (by omega)
            rw [← hn3] at hv3
            have HN3 := Lib.hid hn3
            have hrow7 : Row (X1.alloc (.cells #[.int .i64 atn, .int .i64 xl, .int .i64 xa, .int .i64 xb, .int .i64 xc, .int .i64 xd, .int .u64 xm] 116 (0, 0))) 116 7 (.slice a3 n3 c3) n3 ((sqTo S.L atn).flatMap encSq) := hrow.keep fun q hq => Below.heap_alloc X1 _ q (hrow.lt q hq)
            have HR7 := Lib.hid hrow7
            have M3 := Lib.hid (show n3 + 1 ≤ maxLen by unfold maxLen; omega)
            have M4 := Lib.hid (show (n3 + 1) * 56 ≤ 140737488355328 by omega)
            rw [hv3]
            have HV3 := Lib.hid hv3
            clear hrow hrow7 hn3 hv3
            go_wp2_with ((at_builtin; go_loud (refine wpList_append_row _ rfl (.tmp 48) (.tmp 58) 71 rfl 116 i0 _ 7 56 Try.underlying71 hi hz0 hz1 hz2 rfl (by omega) (.slice a3 n3 c3) n3 ((sqTo S.L atn).flatMap encSq) rfl HR7.out ⟨X1.heap.size, 0, none⟩ 1 1 [.int .i64 atn, .int .i64 xl, .int .i64 xa, .int .i64 xb, .int .i64 xc, .int .i64 xd, .int .u64 xm] rfl rfl (news_alloc X1 _ _ rfl) (by simp [Value.oneCell']) (by omega) M3.out M4.out _ rfl ?_; intro g6 off cap w6 hrow hg hat)))
            have hnew := HSQ.out.new
            rw [HV3.out] at hnew
            have hwX := HBB.out.size
            have hg6 : w.heap.size ≤ g6 := by
              rcases hat with e | e
              · exact hnew g6 e
              · rw [e]; simp; omega
            refine ⟨⟨atn + 1, by go_num, by omega, hk, ⟨?_, fun q hq => ?_⟩, ?_⟩, by simp [intOf]; omega⟩
            · rw [HSN.out, HYE.out, List.flatMap_append, HFM.out.1, List.length_append, HFM.out.2, ← HN3.out]
              exact hrow
            · obtain rfl : g6 = q := by simpa [Value.ownBlock] using hq
              exact hg6
            · have h8 := HBB.out.alloc hwX (.cells #[.int .i64 atn, .int .i64 xl, .int .i64 xa, .int .i64 xb, .int .i64 xc, .int .i64 xd, .int .u64 xm] 116 (0, 0))
              exact h8.trans ((Keeps.grown (F := fun q => w.heap.size ≤ q) (Keeps.refl _ _) hg fun q hq _ => hnew q hq).toBelow (fun _ h => h) h8.size)
          · have g8 : (xk == 0) = false := by simpa using hx0
            have g9 : decide (xk = 0) = false := decide_eq_false hx0
            have HNX : Aside (SqSt S.L (atn + 1) w.heap.size _ X1) := SqSt.skip HSQ.out (by rw [HSN.out, HNO.out (.inr (.inr hx0)), List.append_nil])
            clear hx0
            go_wp2_with fail
            refine ⟨⟨atn + 1, by go_num, by omega, hk, HNX, HBB.out⟩, by simp [intOf]; omega⟩
        · have g8 : ((atn : Int) == (k : Int)) = false := by simp; omega
          have g9 : (atn == k) = false := by simpa using hak
          have HNX : Aside (SqSt S.L (k + 1) w.heap.size _ X1) := SqSt.skip HSQ.out (by rw [HSN.out, HNO.out (.inr (.inl hak)), List.append_nil])
          clear hak
          go_wp2_with fail
          refine ⟨⟨k + 1, by go_num, by omega, hk, HNX, HBB.out⟩, by simp [intOf]; omega⟩
    · have t1 : decide ((k : Int) < (N : Int)) = false := decide_eq_false (by omega)
      have t2 : decide (k < N) = false := decide_eq_false hk
      have hkN : k = S.L.length := by rw [← HN.out]; omega
      have HE := Lib.hid (show sqTo S.L k = squaresA S by rw [hkN]; rfl)
      have HBL := Lib.hid hbl
      clear hA hent hkN hbl hI
      go_wp2_with fail
      go_ret
      refine ⟨_, rfl, ?_, HR.out.new, HBL.out⟩
      rw [← HE.out]
      exact HR.out.row
end Go.Proofs.Ytdmamecfmfhlmaa
