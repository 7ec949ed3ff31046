/-
  A listed variable that holds a row of texts: its cells.
-/
import Derived.LaidMore
import Derived.Stop.LaidErr
import Derived.Test.YtdmamecfmfhlmaaGreatDoorZSpeechWrites10
import Derived.Test.YtdmamecfmfhlmaaGreatDoorKinds
namespace Go.Proofs.YtdmamecfmfhlmaaGreatDoor
set_option maxRecDepth 100000
open Go.RowKit

/-- The variable g holds these texts, in blocks below B. -/
def StrsAt (B : Nat) (w : World) (g : Nat) (ts : List (List UInt8)) : Prop :=
  ∃ b o cap, w.cell? ⟨g, 0, none⟩ = some (.slice (some ⟨b, o, none⟩) ts.length cap) ∧ ts.length ≤ cap ∧ b < B ∧ g < B ∧ ∀ i t, ts[i]? = some t → w.cell? ⟨b, o + i, none⟩ = some (.string (txt t))
theorem StrsAt.on {B : Nat} {w w' : World} {g : Nat} {ts : List (List UInt8)} (h : StrsAt B w g ts) (hb : Below B w w') : StrsAt B w' g ts := by
  obtain ⟨b, o, cap, h1, h2, h3, h4, h5⟩ := h
  exact ⟨b, o, cap, (hb.cell (p := ⟨g, 0, none⟩) h4).trans h1, h2, h3, h4, fun i t ht => (hb.cell (p := ⟨b, o + i, none⟩) h3).trans (h5 i t ht)⟩
theorem strs_of_head {P : Program} {W : World} {name : String} {bs : List (List UInt8)} {rest : List (String × DataW Unit)} {g : Nat} {t e : TypeId}
    (hg : P.globalNamed name = some g) (hty : (P.globals[g]?).map (·.type) = some t) (ht : P.underlying t = some (.slice e)) (he : P.underlying e = some .string) (hce : P.cellsOf e = 1) (hne : bs ≠ [])
    (h : laidMet P ((name, .slice (bs.map fun b => .lit (.string b)) []) :: rest) W) : StrsAt W.heap.size W g bs := by
  obtain ⟨ps, ⟨g', t', cs, fuel, p, q, hg', ht', hvar, hd, _, _⟩, _⟩ := h
  obtain rfl := Option.some.inj (hg.symm.trans hg')
  obtain rfl := Option.some.inj (hty.symm.trans ht')
  obtain ⟨a, cap, hcs, hl, hr⟩ := open_row ht hce hd
  obtain ⟨cs⟩ := cs
  simp only at hcs
  subst hcs
  rw [List.length_map] at hvar hl
  have hcell : ∀ i b, bs[i]? = some b → W.cell? (a.add i) = some (.string (txt b)) := fun i b hb => by
    obtain ⟨v, n, q, h1, h2⟩ := hr i (.lit (.string b)) (by rw [List.getElem?_map, hb]; rfl)
    obtain ⟨s, hs, hx, -⟩ := DataW.trod_string he h2
    simp only [List.cons.injEq, and_true] at hs
    simp only [Prod.mk.injEq, DataW.lit.injEq, Lit.string.injEq] at hx
    rw [h1, hs, hx.1]
    congr 2
  obtain ⟨b0, hb0⟩ : ∃ b, bs[0]? = some b := by
    cases bs with
    | nil => exact absurd rfl hne
    | cons b _ => exact ⟨b, rfl⟩
  obtain ⟨b, o, sp⟩ := a
  have c0 := hcell 0 b0 hb0
  have hsp : sp = none := by
    have := World.cell?_spot c0
    simpa [Addr.add] using this
  subst hsp
  have hv := World.var?_cell hg hvar 0
  refine ⟨b, o, cap, by rw [hv]; rfl, hl, ?_, World.block_lt_of_cell? W _ (by rw [hv]; rfl), fun i t hti => ?_⟩
  · have := World.block_lt_of_cell? W _ c0
    simpa [Addr.add] using this
  · have := hcell i t hti
    rwa [Addr.add_lit] at this
end Go.Proofs.YtdmamecfmfhlmaaGreatDoor
