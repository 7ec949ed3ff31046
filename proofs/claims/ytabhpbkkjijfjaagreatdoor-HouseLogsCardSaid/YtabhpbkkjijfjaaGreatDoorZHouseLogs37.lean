/-
  A house that was just built is a house, with nothing kept and nothing told; Texts in frames: plain lists of bytes.
-/
import Derived.Lib.UnsafeStr
import Derived.Test.YtabhpbkkjijfjaaGreatDoorZHouseLogsHouseBoot
import Derived.Test.YtabhpbkkjijfjaaGreatDoorZHouseLogsHouseTick
import Derived.Test.YtabhpbkkjijfjaaGreatDoorZHouseLogs2
namespace Go.Proofs.YtabhpbkkjijfjaaGreatDoor
set_option maxRecDepth 100000
open Go.RowKit

def newPort : PortS := ⟨⟨#[]⟩, [], []⟩
def newHouse (n : Nat) : HouseS := ⟨List.replicate n newPort, ⟨List.replicate n [], 0⟩, [], 0⟩
theorem BootSt.house {w0 W : World} {b ab tb n : Nat} {ds : List Int} {pbs hbs : List Nat} {pv : Value} {S : ArS} {FA Ft : Nat → Prop} (h : BootSt w0 b ab tb n ds n pbs hbs pv S FA Ft W) :
    HouseAt b ab tb pbs hbs (newHouse n) pv (.pointer none) (.slice none 0 0) W (fun i => i = b ∨ pv.ownBlock = some i) Ft (fun t i => pbs[t]? = some i) := by
  have hl : (newHouse n).ports.length = n := List.length_replicate
  have hlp : ∀ t j, pbs[t]? = some j → j < W.heap.size := fun t j ht => h.lt.2.1 j (List.mem_of_getElem? ht)
  have hltt : ∀ i, Ft i → i < W.heap.size := by obtain ⟨_, _, hq⟩ := h.turns; exact hq.lt
  have hport : ∀ (t j : Nat), pbs[t]? = some j → ∃ hb, W.heap[j]? = some (.cells (portArr hb ⟨#[]⟩ (.slice none 0 0) (.pointer none) (.slice none 0 0)) 66 (0, 0)) := fun t j ht => by
    have htl := (List.getElem?_eq_some_iff.1 ht).1
    exact ⟨_, h.port t j _ ht (List.getElem?_eq_getElem (by rw [h.nh, ← h.np]; exact htl))⟩
  refine { log := ⟨h.blk, .inl rfl, rfl, ⟨rfl, .inl ⟨rfl, rfl⟩⟩, by decide, fun _ => rfl⟩, prow := by rw [h.np]; exact h.prow, np := h.np.trans hl.symm, nh := h.nh.trans hl.symm, port := fun t p pb hb e1 e2 e3 => ?_, turns := h.turns, nt := ?_, clock := (by unfold I64 newHouse; simp), fb := .inl rfl, fv := fun g hg => .inr hg, fl := fun g hg => (by cases hg), lth := fun i hi => ?_, ltt := hltt, ltp := fun t i hi => hlp t i hi, a1 := fun i hi e => ?_, a2 := fun t i hi e => ?_, a3 := fun t i hi e => ?_, a4 := fun s t i hst e1 e2 => ?_ }
  · have hp : p = newPort := by
      have := List.mem_of_getElem? e1
      exact (List.mem_replicate.1 this).2
    subst hp
    refine ⟨.slice none 0 0, .pointer none, .slice none 0 0, ⟨h.port t pb hb e2 e3, .inl rfl, rfl, ⟨rfl, .inl ⟨rfl, rfl⟩⟩, by decide, fun _ => rfl⟩, Row.nil _ _ _, e2, fun g hg => (by cases hg), fun g hg => (by cases hg), fun i hi => hlp t i hi⟩
  · show (List.replicate n ([] : List ByteArray)).length = _
    rw [List.length_replicate, hl]
  · rcases hi with rfl | e
    · exact lt_of_block h.blk
    · exact h.prow.lt i e
  · rcases hi with rfl | e1
    · exact (h.ft _ e).1 rfl
    · exact (h.ft i e).2.2.2 e1
  · obtain ⟨hb, hbl⟩ := hport t i e
    rcases hi with rfl | e1
    · rw [h.blk] at hbl
      simp only [Option.some.injEq, Obj.cells.injEq] at hbl
      exact absurd hbl.2.1 (by decide)
    · exact h.prow.ne_type hbl (by decide) e1
  · exact (h.ft i hi).2.1 (List.mem_of_getElem? e)
  · have hs := (List.getElem?_eq_some_iff.1 e1).1
    have ht := (List.getElem?_eq_some_iff.1 e2).1
    have e := e1.trans e2.symm
    exact hst ((List.getElem?_inj hs h.nodup).1 e)
end Go.Proofs.YtabhpbkkjijfjaaGreatDoor
namespace Go.Proofs.YtabhpbkkjijfjaaGreatDoor
set_option maxRecDepth 100000
open Go.RowKit

def frameOf (m : UInt8) (l : List UInt8) : List UInt8 := m :: UInt8.ofNat l.length :: (l ++ List.replicate (126 - l.length) 0)
def wrapF (l : List UInt8) : List UInt8 := if _h : 126 < l.length then frameOf 1 (l.take 126) ++ wrapF (l.drop 126) else frameOf 0 l
termination_by l.length
decreasing_by simp; omega
theorem wrapF_long {l : List UInt8} (h : 126 < l.length) : wrapF l = frameOf 1 (l.take 126) ++ wrapF (l.drop 126) := by rw [wrapF, dif_pos h]
theorem wrapF_short {l : List UInt8} (h : l.length ≤ 126) : wrapF l = frameOf 0 l := by rw [wrapF, dif_neg (by omega)]
theorem frameOf_length (m : UInt8) {l : List UInt8} (h : l.length ≤ 126) : (frameOf m l).length = 128 := by simp [frameOf]; omega
theorem wrapF_length (l : List UInt8) : (wrapF l).length ≤ 128 * (l.length / 126 + 1) := by
  rw [wrapF]
  split
  · next h =>
    have ih := wrapF_length (l.drop 126)
    have e : (l.drop 126).length = l.length - 126 := by simp
    rw [e] at ih
    rw [List.length_append, frameOf_length 1 (by simp; omega)]
    have : (l.length - 126) / 126 + 1 = l.length / 126 := by omega
    rw [this] at ih
    omega
  · next h => rw [frameOf_length 0 (by omega)]; omega
termination_by l.length
decreasing_by simp; omega
def frameA (m k : Nat) : Array Value := ((zerosA 128).setIfInBounds 0 (Value.int .u8 m)).setIfInBounds 1 (Value.int .u8 k)
theorem frameA_size (m k : Nat) : (frameA m k).size = 128 := by simp [frameA, zerosA_size]
theorem zerosA_128 : (zerosA 128).toList = .int .u8 0 :: .int .u8 0 :: List.replicate 126 (.int .u8 0) := rfl
theorem frameA0 (k : Nat) : frameA 0 k = (zerosA 128).setIfInBounds 1 (Value.int .u8 k) := by
  have e : (zerosA 128).setIfInBounds 0 (Value.int .u8 (0 : Nat)) = zerosA 128 := by
    apply Array.toList_inj.1
    rw [Array.toList_setIfInBounds, zerosA_128]; rfl
  rw [frameA, e]
theorem frameA_list (m k : Nat) : (frameA m k).toList = .int .u8 m :: .int .u8 k :: List.replicate 126 (.int .u8 0) := by
  rw [frameA, Array.toList_setIfInBounds, Array.toList_setIfInBounds, zerosA_128]
  rfl
theorem byteCells_append (a b : List UInt8) : Lib.byteCells (a ++ b) = Lib.byteCells a ++ Lib.byteCells b := by simp [Lib.byteCells]
/-- What the copied row holds: the frame. -/
theorem frame_row {m k : Nat} {l : List UInt8} (hm : m < 256) (hk : l.length = k) (h : k ≤ 126) :
    (frameA m k).toList.take 2 ++ (Lib.byteCells l ++ (frameA m k).toList.drop (2 + k)) = Lib.byteCells (frameOf (UInt8.ofNat m) l) := by
  have e1 : (UInt8.ofNat m).toNat = m := by simp; omega
  have e2 : (UInt8.ofNat l.length).toNat = k := by simp; omega
  have e3 : (List.replicate 126 (Value.int .u8 0)).drop k = List.replicate (126 - k) (Value.int .u8 0) := List.drop_replicate
  have e4 : Lib.byteCells (List.replicate (126 - k) 0) = List.replicate (126 - k) (Value.int .u8 0) := by rw [Lib.byteCells, List.map_replicate]; rfl
  have e5 : (frameA m k).toList.drop (2 + k) = List.replicate (126 - k) (Value.int .u8 0) := by
    rw [frameA_list, Nat.add_comm]; exact e3
  rw [e5, frameA_list, frameOf, hk, ← e4, ← byteCells_append]
  rw [hk] at e2
  simp only [List.take, Lib.byteCells, List.map_cons, e1, e2]
  rfl
def wrapM (s more : Value) : Nat := match s, more with
  | .string s, .bool true => s.size + 1
  | .string s, .bool false => s.size
  | _, _ => 0
theorem frame_pad {m k : Nat} {l g0 : List UInt8} (hg : g0 = [UInt8.ofNat m, UInt8.ofNat k] ++ l) (hk : l.length = k) (j : Nat) (hj : 2 + k + j = 128) : g0 ++ List.replicate j 0 = frameOf (UInt8.ofNat m) l := by
  subst hg
  subst hk
  rw [frameOf, show 126 - l.length = j by omega]
  simp
theorem pad_snoc (g : List UInt8) (j : Nat) : g ++ List.replicate j 0 ++ [0] = g ++ List.replicate (j + 1) 0 := by
  rw [List.append_assoc, ← List.replicate_succ']
def strSz : Value → Nat
  | .string s => s.size
  | _ => 0
end Go.Proofs.YtabhpbkkjijfjaaGreatDoor
