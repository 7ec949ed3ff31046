/-
  leap's result.
-/
import Derived.Test.YtabhpbkkjijfjaaZLeapStepsLResBy
import Derived.Test.YtabhpbkkjijfjaaZLeapStepsLLargeF
import Derived.Test.YtabhpbkkjijfjaaZLeapStepsLLargeP
namespace Go.Proofs.Ytabhpbkkjijfjaa
set_option maxRecDepth 100000
open Go.RowKit

/-- large's contract, at one level. -/
def LargeOk (m : Nat) : Prop := ∀ (U : Th → Prop) (lb b t : Nat) (B Lv : Int) (S : ArS) (F : Nat → Prop) (id : Int) (T : Tree) (j : Nat) (w : World), j ≤ m + 1 → IsAr b S w F → Wf S.L → NoteI S.L → LAt lb b t B Lv 0 w → ¬ F lb → t < 64 → (0 ≤ B ∧ B < 512 ∧ 0 ≤ Lv ∧ Lv < 512) → Den S.L t (m + 3) T id → (∀ th, Dem B Lv (m + 1) j T th → U th) →
    Calls Try.prog 52 #[.pointer (some ⟨lb, 0, none⟩), .agg (rArr (gN S t 0 id)), .int .i64 ((m + 3 : Nat) : Int), .int .i64 (j : Int)] w (LMut w F lb b t B Lv (LMade U t S 0 (m + 2) (leapT B Lv (m + 1) j T)))
theorem large_any {m : Nat} (hm : m + 3 ≤ 44) (IH : ResOk m) : LargeOk m := by
  intro U lb b t B Lv S F id T j w hj h wf hnote hh hn ht hB hd hU
  by_cases e : j = m + 1
  · subst e
    exact large_full hm IH U lb b t B Lv S F id T w h wf hnote hh hn ht hB hd hU
  · exact large_part hm IH U lb b t B Lv S F id T j (by omega) w h wf hnote hh hn ht hB hd hU
theorem result_any : ∀ n : Nat, n + 2 ≤ 44 → ResOk n
  | 0, hn2 => fun U lb b t B Lv bad S F id T j w h wf hnote hh hn ht hB hj hd hid hU =>
    result_by hn2 U lb b t B Lv bad S F id T j w h wf hnote hh hn ht hB hj hd hid hU fun hb W hW hl => ⟨fun _ => lsmall_tree (U := U) lb b t B Lv S F id T W hW wf hl hn ht (hd hb) (hU _ (.inl rfl)), fun e => absurd rfl e⟩
  | m + 1, hn2 => fun U lb b t B Lv bad S F id T j w h wf hnote hh hn ht hB hj hd hid hU =>
    result_by hn2 U lb b t B Lv bad S F id T j w h wf hnote hh hn ht hB hj hd hid hU fun hb W hW hl => ⟨fun e => by omega, fun _ => large_any (by omega) (result_any m (by omega)) U lb b t B Lv S F id T j W hj hW wf hnote hl hn ht hB (hd hb) hU⟩
end Go.Proofs.Ytabhpbkkjijfjaa
