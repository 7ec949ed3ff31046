/-
  Further arguments of the laws: arrays, moves, cells, deeds, requests, answers.
-/
import Derived.Test.YtdmamecfmfhlmaaKinds
namespace Go.Proofs.Ytdmamecfmfhlmaa
set_option maxRecDepth 100000
open Go.RowKit Go.ChangeShapes Go.WideShapes

def RArr {α : Type} (n k : Nat) (R : World → α → List Value → Prop) (w : World) (zs : List α) (cs : List Value) : Prop :=
  zs.length = n ∧ cs.length = n * k ∧ ∀ i z, zs[i]? = some z → R w z ((cs.drop (i * k)).take k)
theorem opens_array {P : Program} {t e : TypeId} {n k : Nat} {α : Type} {R : World → α → List Value → Prop} (ht : P.underlying t = some (.array n e)) (hk : P.cellsOf t = n * k) (he : Opens P e k R) :
    Opens P t (n * k) (RArr n k R) :=
  ⟨hk, fun enc w fuel cs x h hw => by
    obtain ⟨xs, m, _, rfl, hl, hlen, hall⟩ := DataW.trod_array ht h
    rw [he.1] at hall
    have key : ∀ i, i < n → ∃ z, R w z ((cs.drop (i * k)).take k) := fun i hi => by
      have hx := hall i hi
      rw [List.getElem?_eq_getElem (by omega)] at hx
      have hwi : ∀ q ∈ (xs[i].1).weights P e, q ≤ reachBytes := fun q hq => hw q (by
        simp only [DataW.weights, ht]
        exact weightsAll_mem (d := xs[i].1) (List.mem_map.2 ⟨xs[i], List.getElem_mem _, rfl⟩) hq)
      exact (he.2 enc w m _ _ hx hwi).2
    obtain ⟨zs, h1, h2⟩ := choose_list n key
    exact ⟨by omega, zs, h1, by omega, h2⟩⟩
theorem okWide_array {P : Program} {w : World} {r : Reach} {base : Nat} {t : TypeId} {v : Value} {n : Nat} {e : TypeId} (ht : P.underlying t = some (.array n e)) (h : Value.okWide P w r base t v) : ∃ cs, v = .agg cs ∧ cs.size = P.cellsOf t := by
  simp only [Value.okWide, ht] at h
  obtain ⟨cs, h1, h2, _⟩ := h
  exact ⟨cs, h1, h2⟩
/-- Four numbers. -/
structure Quad where
  a : Int
  b : Int
  c : Int
  d : Int
def Quad.cells (q : Quad) : List Value := [.int .i64 q.a, .int .i64 q.b, .int .i64 q.c, .int .i64 q.d]
def Quad.Good (q : Quad) : Prop := I64 q.a ∧ I64 q.b ∧ I64 q.c ∧ I64 q.d
def RQuad (_ : World) (q : Quad) (cs : List Value) : Prop := cs = q.cells ∧ q.Good
theorem rquad_of {w : World} {zs : List Int} {cs : List Value} (h : RArr 4 1 RInt w zs cs) : ∃ q, RQuad w q cs := by
  obtain ⟨h1, h2, h3⟩ := h
  match zs, h1, cs, h2 with
  | [a, b, c, d], _, [x0, x1, x2, x3], _ =>
    obtain ⟨e0, g0, g0'⟩ := h3 0 a rfl
    obtain ⟨e1, g1, g1'⟩ := h3 1 b rfl
    obtain ⟨e2, g2, g2'⟩ := h3 2 c rfl
    obtain ⟨e3, g3, g3'⟩ := h3 3 d rfl
    simp at e0 e1 e2 e3
    exact ⟨⟨a, b, c, d⟩, by rw [Quad.cells, e0, e1, e2, e3], ⟨g0, g0'⟩, ⟨g1, g1'⟩, ⟨g2, g2'⟩, ⟨g3, g3'⟩⟩
theorem o_quad : Opens Try.prog 61 4 RQuad :=
  ⟨(by kernel_rfl), fun enc w fuel cs x h hw => by
    obtain ⟨hl, zs, hz⟩ := (opens_array (n := 4) (k := 1) Try.underlying61 (by kernel_rfl) o_int).2 enc w fuel cs x h hw
    exact ⟨hl, rquad_of hz⟩⟩
def Is_four (_ : World) (v : Value) : Prop := ∃ q : Quad, v = .agg q.cells.toArray ∧ q.Good
theorem open_four {H : Type} {enc : TypeId × Value → H} {w : World} {v : Value} {d : DataW H} {ps : List MemPlace} {r : Reach} {b0 : Nat}
    (hv : Value.okWide Try.prog w r b0 61 v) (h : DataW.Trod enc Try.prog w 0 (fun _ => true) true 61 v d ps) (hw : ∀ n ∈ d.weights Try.prog 61, n ≤ reachBytes) : Is_four w v := by
  obtain ⟨cs, rfl, hsz⟩ := okWide_array Try.underlying61 hv
  obtain ⟨q, hq, hg⟩ := opens_value o_quad h hw
  exact ⟨q, by congr 1; apply Array.toList_inj.1; simpa [Value.cells] using hq, hg⟩
/-! ### A cell -/
def Is_cell (_ : World) (v : Value) : Prop := ∃ b l, v = .agg #[.int .i64 b, .int .i64 l] ∧ I64 b ∧ I64 l
theorem open_cell {H : Type} {enc : TypeId × Value → H} {w : World} {v : Value} {d : DataW H} {ps : List MemPlace} {r : Reach} {b0 : Nat}
    (hv : Value.okWide Try.prog w r b0 39 v) (h : DataW.Trod enc Try.prog w 0 (fun _ => true) true 39 v d ps) (hw : ∀ n ∈ d.weights Try.prog 39, n ≤ reachBytes) : Is_cell w v := by
  obtain ⟨cs, rfl, hsz⟩ := okWide_struct Try.underlying39 hv
  obtain ⟨z, hz⟩ := opens_value (opens_struct Try.underlying39 (k := 2) (by kernel_rfl) (opensFields_cons rfl o_int (opensFields_cons rfl o_int opensFields_nil))) h hw
  obtain ⟨e, h1, h2⟩ := rtwo_iff hz
  exact ⟨z.1, z.2.1, by congr 1; apply Array.toList_inj.1; simpa [Value.cells] using e, h1, h2⟩
/-! ### Moves -/
structure MoveD where
  kind : Int
  tenant : Int
  a : Quad
def encMove (m : MoveD) : List Value := .int .i64 m.kind :: .int .i64 m.tenant :: m.a.cells
def GoodMove (m : MoveD) : Prop := I64 m.kind ∧ I64 m.tenant ∧ m.a.Good
def Is_moves (w : World) (v : Value) : Prop := ∃ ks : List MoveD, IsSl w 6 48 v ks.length (ks.flatMap encMove) ∧ ∀ k ∈ ks, GoodMove k
theorem o_move : Opens Try.prog 63 6 (fun _ (k : MoveD) cs => cs = encMove k ∧ GoodMove k) :=
  ⟨(by kernel_rfl), fun enc w fuel cs x h hw => by
    obtain ⟨hl, z, ⟨h1, h2⟩, ⟨h4, h5⟩, ⟨h7, h8⟩, h10⟩ := (opens_struct Try.underlying63 (by kernel_rfl) (opensFields_cons rfl o_int (opensFields_cons rfl o_int (opensFields_cons rfl o_quad opensFields_nil)))).2 enc w fuel cs x h hw
    refine ⟨hl, ⟨z.1, z.2.1, z.2.2.1⟩, ?_⟩
    match cs, hl with
    | [a, b, c, d, e, f], _ =>
      simp at h1 h4 h7
      subst h1; subst h4
      exact ⟨by rw [encMove, ← h7], h2, h5, h8⟩⟩
theorem open_moves {H : Type} {enc : TypeId × Value → H} {w : World} {v : Value} {d : DataW H} {ps : List MemPlace} {r : Reach} {b0 : Nat}
    (hv : Value.okWide Try.prog w r b0 50 v) (h : DataW.Trod enc Try.prog w 0 (fun _ => true) true 50 v d ps) (hw : ∀ n ∈ d.weights Try.prog 50, n ≤ reachBytes) : Is_moves w v := by
  obtain ⟨a, len, cap, rfl⟩ := okWide_slice Try.underlying50 hv
  obtain ⟨zs, hz⟩ := opens_value (opens_slice Try.underlying50 (by kernel_rfl) (by kernel_rfl) (by omega) o_move) h hw
  exact ⟨zs, isSl_of (k := 6) (enc := encMove) (Good := GoodMove) (by omega) (fun _ => rfl) (fun w z c hc => hc) hz⟩
/-! ### Deeds -/
structure DeedD where
  kind : Int
  tenant : Int
  n : Int
  bytes : ByteArray
def encDeed (k : DeedD) : List Value := [.int .i64 k.kind, .int .i64 k.tenant, .int .i64 k.n, .string k.bytes]
def GoodDeed (k : DeedD) : Prop := I64 k.kind ∧ I64 k.tenant ∧ I64 k.n ∧ k.bytes.size ≤ 140737488351232
def Is_deeds (w : World) (v : Value) : Prop := ∃ ks : List DeedD, IsSl w 4 40 v ks.length (ks.flatMap encDeed) ∧ ∀ k ∈ ks, GoodDeed k
end Go.Proofs.Ytdmamecfmfhlmaa
