/-
  The law's sameSquares: two lists of the same squares; Further arguments of the laws: arrays, moves, cells, deeds, requests, answers.
-/
import Derived.Test.YtdmamecfmfhlmaaZArenaPlaysReMoved
import Derived.Test.YtdmamecfmfhlmaaKinds
namespace Go.Proofs.Ytdmamecfmfhlmaa
set_option maxRecDepth 100000
open Go.RowKit

def GoodSq (p : Nat × Ent) : Prop := I64 p.1 ∧ I64 p.2.lv ∧ (I64 p.2.a ∧ I64 p.2.b ∧ I64 p.2.c ∧ I64 p.2.d) ∧ p.2.ma < 18446744073709551616
theorem eqSq (i lv a b c d : Int) (m : Nat) (h0 : I64 i) (h1 : I64 lv) (h2 : I64 a ∧ I64 b ∧ I64 c ∧ I64 d) (h3 : m < 18446744073709551616) (w : World) :
    (Op.equalIn 10000 116 (.agg #[.int .i64 i, .int .i64 lv, .int .i64 a, .int .i64 b, .int .i64 c, .int .i64 d, .int .u64 (m : Int)]) (.agg #[.int .i64 i, .int .i64 lv, .int .i64 a, .int .i64 b, .int .i64 c, .int .i64 d, .int .u64 (m : Int)])).run Try.prog w = .ok true w := by
  have e3 : Try.prog.cellsOf 61 = 4 := by kernel_rfl
  have e4 : Try.prog.cellsOf 3 = 1 := by kernel_rfl
  have e5 : Try.prog.cellsOf 84 = 1 := by kernel_rfl
  have e6 : Try.prog.cellsOf 116 = 7 := by kernel_rfl
  have e2 : ∀ x0 x1 x2 x3 x4 x5 x6 : Int, Value.formed Try.prog 116 (.agg #[.int .i64 x0, .int .i64 x1, .int .i64 x2, .int .i64 x3, .int .i64 x4, .int .i64 x5, .int .u64 x6]) = true := fun _ _ _ _ _ _ _ => by kernel_rfl
  have wf : ∀ n, I64 n → (Lit.int .i64 n).wf = true := fun n hn => WalkArith.wf_i64 (by unfold I64 at hn; omega)
  have wu : (Lit.int .u64 (m : Int)).wf = true := WalkArith.wf_u64 (by omega)
  have li : ∀ d n, I64 n → Try.prog.keyLits (d + 1) 3 [.int .i64 n] = some [.int .i64 n] := fun d n hn => by
    simp [Program.keyLits, Try.underlying3, wf n hn]
  have lu : ∀ d, Try.prog.keyLits (d + 1) 84 [.int .u64 (m : Int)] = some [.int .u64 (m : Int)] := fun d => by
    simp [Program.keyLits, Try.underlying84, wu]
  obtain ⟨g0, g1, g2, g3⟩ := h2
  have la : ∀ k, Try.prog.keyLits (k + 2) 61 [.int .i64 a, .int .i64 b, .int .i64 c, .int .i64 d] = some [.int .i64 a, .int .i64 b, .int .i64 c, .int .i64 d] := fun k => by
    simp [Program.keyLits, Try.underlying61, Try.underlying3, e3, e4, show List.range 4 = [0, 1, 2, 3] from rfl, wf a g0, wf b g1, wf c g2, wf d g3]
  have lc : Try.prog.keyLits 3 116 [.int .i64 i, .int .i64 lv, .int .i64 a, .int .i64 b, .int .i64 c, .int .i64 d, .int .u64 (m : Int)] = some [.int .i64 i, .int .i64 lv, .int .i64 a, .int .i64 b, .int .i64 c, .int .i64 d, .int .u64 (m : Int)] := by
    have l0 := li 1 i h0
    have l1 := li 1 lv h1
    have l2 := la 0
    have l3 := lu 1
    unfold Program.keyLits
    simp [Try.underlying116, e3, e4, e5, e6, l0, l1, l2, l3]
  have hk : Try.prog.keyTypeAt 3 116 = true := by kernel_rfl
  obtain ⟨r, hr, hiff⟩ := run_equalIn_deep (P := Try.prog) 9997 3 116 hk w 3 3 _ _ _ _ (e2 i lv a b c d m) (e2 i lv a b c d m) lc lc
  rw [show (10000 : Nat) = 9997 + 3 from rfl, hr]
  congr 1
  exact hiff.2 rfl
set_option maxHeartbeats 2000000 in
theorem sameSq_any (l : List (Nat × Ent)) (u v : Value) (w : World) (hu : Row w 116 7 u l.length (l.flatMap encSq)) (hv : Row w 116 7 v l.length (l.flatMap encSq)) (hg : ∀ p ∈ l, GoodSq p) :
    Calls Try.prog 29 #[u, v] w fun e w' => e = .returned (.bool true) ∧ Below w.heap.size w w' := by
  obtain ⟨a, c, rfl, -, hm, -⟩ := hu.form
  obtain ⟨a2, c2, rfl, -, -, -⟩ := hv.form
  obtain ⟨n, hn⟩ : ∃ n, n = l.length := ⟨_, rfl⟩
  rw [← hn] at hu hv
  have hnm : n ≤ maxLen := by
    obtain ⟨a', c', e, h1, h2, -⟩ := hu.form
    omega
  have hn63 : n ≤ 9223372036854775807 := by unfold maxLen at hnm; omega
  rw [← hn]
  have HN := Lib.hid hn
  have HU := Lib.hid hu
  have HV := Lib.hid hv
  have HG := Lib.hid hg
  clear hn hu hv hg hm hnm
  go_enter Try.func29, Try.ntmps29
  go_wp2_with fail
  go_loopw [5] (fun iv ws => ∃ k : Nat, iv = .int .i64 k ∧ k ≤ n ∧ Below w.heap.size w ws) (fun iv _ => n - (intOf iv).toNat)
  case atStart => exact ⟨0, rfl, Nat.zero_le _, Below.refl _ _⟩
  case round =>
    obtain ⟨k, rfl, hkn, hbl⟩ := hrel
    by_cases hk : k < n
    · obtain ⟨p, hp⟩ : ∃ p, l[k]? = some p := ⟨_, List.getElem?_eq_getElem (by rw [← HN.out]; exact hk)⟩
      obtain ⟨g, o, rfl, hc1, -, hl1⟩ := HU.out.cells (by omega)
      obtain ⟨g2, o2, rfl, hc2, -, hl2⟩ := HV.out.cells (by omega)
      have flat : ∀ j, j < 7 → (l.flatMap encSq)[k * 7 + j]? = (encSq p)[j]? := fun j hj => flat_at (k := 7) (enc := encSq) (by omega) (fun _ => rfl) l k j p hp hj
      have e1 : ∀ j, j < 7 → wr.cell? ⟨g, o + k * 7 + j, none⟩ = (encSq p)[j]? := fun j hj => by
        rw [← flat j hj, ← hc1 (k * 7 + j) (by omega), Nat.add_assoc]
        exact hbl.cell (p := ⟨g, o + (k * 7 + j), none⟩) hl1
      have e2 : ∀ j, j < 7 → wr.cell? ⟨g2, o2 + k * 7 + j, none⟩ = (encSq p)[j]? := fun j hj => by
        rw [← flat j hj, ← hc2 (k * 7 + j) (by omega), Nat.add_assoc]
        exact hbl.cell (p := ⟨g2, o2 + (k * 7 + j), none⟩) hl2
      have x0 := e1 0 (by omega)
      have x1 := e1 1 (by omega)
      have x2 := e1 2 (by omega)
      have x3 := e1 3 (by omega)
      have x4 := e1 4 (by omega)
      have x5 := e1 5 (by omega)
      have x6 := e1 6 (by omega)
      have y0 := e2 0 (by omega)
      have y1 := e2 1 (by omega)
      have y2 := e2 2 (by omega)
      have y3 := e2 3 (by omega)
      have y4 := e2 4 (by omega)
      have y5 := e2 5 (by omega)
      have y6 := e2 6 (by omega)
      simp only [encSq, List.getElem?_cons_zero, List.getElem?_cons_succ, Nat.add_zero] at x0 x1 x2 x3 x4 x5 x6 y0 y1 y2 y3 y4 y5 y6
      have hgp := HG.out p (List.mem_of_getElem? hp)
      obtain ⟨pi, xk, xa, xb, xc, xd, xl, xv, xm⟩ := p
      have heq := fun W => eqSq pi xl xa xb xc xd xm hgp.1 hgp.2.1 hgp.2.2.1 hgp.2.2.2 W
      simp only at x0 x1 x2 x3 x4 x5 x6 y0 y1 y2 y3 y4 y5 y6
      have u1 : decide ((k : Int) < (n : Int)) = true := decide_eq_true (by omega)
      have u2 : decide (k < n) = true := decide_eq_true hk
      have hbl2 : ∀ q, Below w.heap.size w (wr.drewN q) := fun q => hbl.trans (Joins.below_draws _ _ _)
      have HBL := Lib.hid hbl2
      clear hp hc1 hc2 flat e1 e2 hgp hbl hbl2
      go_upto_region 6 with fail
      go_quiet (fail)
      go_wp2_with fail
      exact ⟨⟨k + 1, by go_num, hk, HBL.out _⟩, by simp [intOf]; omega⟩
    · have u1 : decide ((k : Int) < (n : Int)) = false := decide_eq_false (by omega)
      have u2 : decide (k < n) = false := decide_eq_false hk
      go_wp2_with fail
      go_ret
      exact ⟨rfl, hbl⟩
end Go.Proofs.Ytdmamecfmfhlmaa
namespace Go.Proofs.Ytdmamecfmfhlmaa
set_option maxRecDepth 100000
open Go.RowKit Go.ChangeShapes Go.WideShapes

def RArr {α : Type} (n k : Nat) (R : World → α → List Value → Prop) (w : World) (zs : List α) (cs : List Value) : Prop :=
  zs.length = n ∧ cs.length = n * k ∧ ∀ i z, zs[i]? = some z → R w z ((cs.drop (i * k)).take k)
theorem opens_array {P : Program} {t e : TypeId} {n k : Nat} {α : Type} {R : World → α → List Value → Prop} (ht : P.underlying t = some (.array n e)) (hk : P.cellsOf t = n * k) (he : Opens P e k R) :
    Opens P t (n * k) (RArr n k R) :=
  ⟨hk, fun enc w fuel cs x h hw => by
    obtain ⟨xs, m, _, rfl, hl, hlen, hall⟩ := DataW.trod_array ht h
    rw [he.1] at hall
    have key : ∀ i, i < n → ∃ z, R w z ((cs.drop (i * k)).take k) := fun i hi => by
      have hx := hall i hi
      rw [List.getElem?_eq_getElem (by omega)] at hx
      have hwi : ∀ q ∈ (xs[i].1).weights P e, q ≤ reachBytes := fun q hq => hw q (by
        simp only [DataW.weights, ht]
        exact weightsAll_mem (d := xs[i].1) (List.mem_map.2 ⟨xs[i], List.getElem_mem _, rfl⟩) hq)
      exact (he.2 enc w m _ _ hx hwi).2
    obtain ⟨zs, h1, h2⟩ := choose_list n key
    exact ⟨by omega, zs, h1, by omega, h2⟩⟩
theorem okWide_array {P : Program} {w : World} {r : Go.Reach} {base : Nat} {t : TypeId} {v : Value} {n : Nat} {e : TypeId} (ht : P.underlying t = some (.array n e)) (h : Value.okWide P w r base t v) : ∃ cs, v = .agg cs ∧ cs.size = P.cellsOf t := by
  simp only [Value.okWide, ht] at h
  obtain ⟨cs, h1, h2, _⟩ := h
  exact ⟨cs, h1, h2⟩
/-- Four numbers. -/
structure Quad where
  a : Int
  b : Int
  c : Int
  d : Int
def Quad.cells (q : Quad) : List Value := [.int .i64 q.a, .int .i64 q.b, .int .i64 q.c, .int .i64 q.d]
def Quad.Good (q : Quad) : Prop := I64 q.a ∧ I64 q.b ∧ I64 q.c ∧ I64 q.d
def RQuad (_ : World) (q : Quad) (cs : List Value) : Prop := cs = q.cells ∧ q.Good
theorem rquad_of {w : World} {zs : List Int} {cs : List Value} (h : RArr 4 1 RInt w zs cs) : ∃ q, RQuad w q cs := by
  obtain ⟨h1, h2, h3⟩ := h
  match zs, h1, cs, h2 with
  | [a, b, c, d], _, [x0, x1, x2, x3], _ =>
    obtain ⟨e0, g0, g0'⟩ := h3 0 a rfl
    obtain ⟨e1, g1, g1'⟩ := h3 1 b rfl
    obtain ⟨e2, g2, g2'⟩ := h3 2 c rfl
    obtain ⟨e3, g3, g3'⟩ := h3 3 d rfl
    simp at e0 e1 e2 e3
    exact ⟨⟨a, b, c, d⟩, by rw [Quad.cells, e0, e1, e2, e3], ⟨g0, g0'⟩, ⟨g1, g1'⟩, ⟨g2, g2'⟩, ⟨g3, g3'⟩⟩
theorem o_quad : Opens Try.prog 61 4 RQuad :=
  ⟨(by kernel_rfl), fun enc w fuel cs x h hw => by
    obtain ⟨hl, zs, hz⟩ := (opens_array (n := 4) (k := 1) Try.underlying61 (by kernel_rfl) o_int).2 enc w fuel cs x h hw
    exact ⟨hl, rquad_of hz⟩⟩
def Is_four (_ : World) (v : Value) : Prop := ∃ q : Quad, v = .agg q.cells.toArray ∧ q.Good
theorem open_four {H : Type} {enc : TypeId × Value → H} {w : World} {v : Value} {d : DataW H} {ps : List MemPlace} {r : Go.Reach} {b0 : Nat}
    (hv : Value.okWide Try.prog w r b0 61 v) (h : DataW.Trod enc Try.prog w 0 (fun _ => true) true 61 v d ps) (hw : ∀ n ∈ d.weights Try.prog 61, n ≤ reachBytes) : Is_four w v := by
  obtain ⟨cs, rfl, hsz⟩ := okWide_array Try.underlying61 hv
  obtain ⟨q, hq, hg⟩ := opens_value o_quad h hw
  exact ⟨q, by congr 1; apply Array.toList_inj.1; simpa [Value.cells] using hq, hg⟩
/-! ### A cell -/
def Is_cell (_ : World) (v : Value) : Prop := ∃ b l, v = .agg #[.int .i64 b, .int .i64 l] ∧ I64 b ∧ I64 l
theorem open_cell {H : Type} {enc : TypeId × Value → H} {w : World} {v : Value} {d : DataW H} {ps : List MemPlace} {r : Go.Reach} {b0 : Nat}
    (hv : Value.okWide Try.prog w r b0 39 v) (h : DataW.Trod enc Try.prog w 0 (fun _ => true) true 39 v d ps) (hw : ∀ n ∈ d.weights Try.prog 39, n ≤ reachBytes) : Is_cell w v := by
  obtain ⟨cs, rfl, hsz⟩ := okWide_struct Try.underlying39 hv
  obtain ⟨z, hz⟩ := opens_value (opens_struct Try.underlying39 (k := 2) (by kernel_rfl) (opensFields_cons rfl o_int (opensFields_cons rfl o_int opensFields_nil))) h hw
  obtain ⟨e, h1, h2⟩ := rtwo_iff hz
  exact ⟨z.1, z.2.1, by congr 1; apply Array.toList_inj.1; simpa [Value.cells] using e, h1, h2⟩
/-! ### Moves -/
structure MoveD where
  kind : Int
  tenant : Int
  a : Quad
def encMove (m : MoveD) : List Value := .int .i64 m.kind :: .int .i64 m.tenant :: m.a.cells
def GoodMove (m : MoveD) : Prop := I64 m.kind ∧ I64 m.tenant ∧ m.a.Good
def Is_moves (w : World) (v : Value) : Prop := ∃ ks : List MoveD, IsSl w 6 48 v ks.length (ks.flatMap encMove) ∧ ∀ k ∈ ks, GoodMove k
theorem o_move : Opens Try.prog 63 6 (fun _ (k : MoveD) cs => cs = encMove k ∧ GoodMove k) :=
  ⟨(by kernel_rfl), fun enc w fuel cs x h hw => by
    obtain ⟨hl, z, ⟨h1, h2⟩, ⟨h4, h5⟩, ⟨h7, h8⟩, h10⟩ := (opens_struct Try.underlying63 (by kernel_rfl) (opensFields_cons rfl o_int (opensFields_cons rfl o_int (opensFields_cons rfl o_quad opensFields_nil)))).2 enc w fuel cs x h hw
    refine ⟨hl, ⟨z.1, z.2.1, z.2.2.1⟩, ?_⟩
    match cs, hl with
    | [a, b, c, d, e, f], _ =>
      simp at h1 h4 h7
      subst h1; subst h4
      exact ⟨by rw [encMove, ← h7], h2, h5, h8⟩⟩
theorem open_moves {H : Type} {enc : TypeId × Value → H} {w : World} {v : Value} {d : DataW H} {ps : List MemPlace} {r : Go.Reach} {b0 : Nat}
    (hv : Value.okWide Try.prog w r b0 50 v) (h : DataW.Trod enc Try.prog w 0 (fun _ => true) true 50 v d ps) (hw : ∀ n ∈ d.weights Try.prog 50, n ≤ reachBytes) : Is_moves w v := by
  obtain ⟨a, len, cap, rfl⟩ := okWide_slice Try.underlying50 hv
  obtain ⟨zs, hz⟩ := opens_value (opens_slice Try.underlying50 (by kernel_rfl) (by kernel_rfl) (by omega) o_move) h hw
  exact ⟨zs, isSl_of (k := 6) (enc := encMove) (Good := GoodMove) (by omega) (fun _ => rfl) (fun w z c hc => hc) hz⟩
/-! ### Deeds -/
structure DeedD where
  kind : Int
  tenant : Int
  n : Int
  bytes : ByteArray
def encDeed (k : DeedD) : List Value := [.int .i64 k.kind, .int .i64 k.tenant, .int .i64 k.n, .string k.bytes]
def GoodDeed (k : DeedD) : Prop := I64 k.kind ∧ I64 k.tenant ∧ I64 k.n ∧ k.bytes.size ≤ 140737488351232
def Is_deeds (w : World) (v : Value) : Prop := ∃ ks : List DeedD, IsSl w 4 40 v ks.length (ks.flatMap encDeed) ∧ ∀ k ∈ ks, GoodDeed k
end Go.Proofs.Ytdmamecfmfhlmaa
