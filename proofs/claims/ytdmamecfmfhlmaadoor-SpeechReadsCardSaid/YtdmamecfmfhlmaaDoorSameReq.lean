/-
  The document's SameRequest on requests that are alike.
-/
import Derived.Test.YtdmamecfmfhlmaaDoorSameCells
import Derived.Test.YtdmamecfmfhlmaaDoorRead7
namespace Go.Proofs.YtdmamecfmfhlmaaDoor
set_option maxRecDepth 100000
open Go.RowKit

set_option maxHeartbeats 4000000 in
theorem sameReq_any (q : Ask) (a a' : Option Addr) (cap cap' : Nat) (w : World) (h1 : Sl w 2 16 a q.cells.length cap (q.cells.flatMap encCell)) (h2 : Sl w 2 16 a' q.cells.length cap' (q.cells.flatMap encCell)) :
    Calls Tryd.prog 20 #[.agg (q.cells' (.slice a q.cells.length cap)).toArray, .agg (q.cells' (.slice a' q.cells.length cap')).toArray] w fun e w' => e = .returned (.bool true) ∧ Below w.heap.size w w' := by
  obtain ⟨qv, qn, qo, qb, ql, qx, zs⟩ := q
  show Calls Tryd.prog 20 #[.agg #[.int .i64 qv, .string (txt qn), .string (txt qo), .int .i64 qb, .int .i64 ql, .int .i64 qx, .slice a zs.length cap], .agg #[.int .i64 qv, .string (txt qn), .string (txt qo), .int .i64 qb, .int .i64 ql, .int .i64 qx, .slice a' zs.length cap']] w _
  have HB := Lib.hid (show Below w.heap.size w ((w.alloc (.cells #[.int .i64 qv, .string (txt qn), .string (txt qo), .int .i64 qb, .int .i64 ql, .int .i64 qx, .slice a zs.length cap] 47)).alloc (.cells #[.int .i64 qv, .string (txt qn), .string (txt qo), .int .i64 qb, .int .i64 ql, .int .i64 qx, .slice a' zs.length cap'] 47)) from ((Below.refl _ _).alloc (Nat.le_refl _) _).alloc (by simp) _)
  have HS := Lib.hid (fun W (hW : Below w.heap.size w W) => sameC_any zs a a' cap cap' W (h1.below (by decide) hW) (h2.below (by decide) hW))
  obtain ⟨n, hn⟩ : ∃ n, n = zs.length := ⟨_, rfl⟩
  obtain ⟨N, hN⟩ : ∃ N, N = txt qn := ⟨_, rfl⟩
  obtain ⟨O, hO⟩ : ∃ O, O = txt qo := ⟨_, rfl⟩
  rw [← hn, ← hN, ← hO] at HB
  rw [← hn] at HS
  rw [← hn, ← hN, ← hO]
  clear h1 h2 hn hN hO
  go_enter Tryd.func20, Tryd.ntmps20
  go_wp2_with fail
  refine (HS.out _ HB.out).mono ?_
  rintro e w' ⟨rfl, hb⟩
  go_wp2_with fail
  go_ret
  exact ⟨rfl, HB.out.trans (hb.mono HB.out.size)⟩
end Go.Proofs.YtdmamecfmfhlmaaDoor
