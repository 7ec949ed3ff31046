/-
  A house in memory: its ports, what waits, its log; What a house answers to the line "?"; A hall in memory; hall.New of a tenant; The copy of a list of cells.
-/
import Derived.Laws.AppendOwnNone
import Derived.Test.YtabhpbkkjijfjaaGreatDoorZHouseLogsInner
import Derived.Test.YtabhpbkkjijfjaaGreatDoorZHouseLogsTurnsPop
import Derived.Test.YtabhpbkkjijfjaaGreatDoorZHouseLogs4
import Derived.Test.YtabhpbkkjijfjaaGreatDoorZHouseLogs6
import Derived.Test.YtabhpbkkjijfjaaGreatDoorZHouseLogsFoot
import Derived.Test.YtabhpbkkjijfjaaGreatDoorKinds
namespace Go.Proofs.YtabhpbkkjijfjaaGreatDoor
set_option maxRecDepth 100000
open Go.RowKit

/-- What a tenant's port holds: bytes kept, lines that have come, bytes told. -/
structure PortS where
  kept : ByteArray
  come : List ByteArray
  told : List UInt8
def strV (s : ByteArray) : Value := .string s
def portArr (hb : Nat) (kept : ByteArray) (cv o0 ov : Value) : Array Value := #[.pointer (some ⟨hb, 0, none⟩), .string kept, cv, o0, ov]
structure PortAt (pb hb : Nat) (p : PortS) (cv o0 ov : Value) (w : World) (F : Nat → Prop) : Prop where
  out : BldAt pb 3 66 (portArr hb p.kept cv o0 ov) ov (Lib.byteCells p.told) w
  come : Row w 9 1 cv p.come.length (p.come.map strV)
  fp : F pb
  fc : ∀ g, cv.ownBlock = some g → F g
  fo : ∀ g, ov.ownBlock = some g → F g
  lt : ∀ i, F i → i < w.heap.size
def IsPort (pb hb : Nat) (p : PortS) (w : World) (F : Nat → Prop) : Prop := ∃ cv o0 ov, PortAt pb hb p cv o0 ov w F
theorem PortAt.keep {pb hb : Nat} {p : PortS} {cv o0 ov : Value} {w w' : World} {F G : Nat → Prop} (h : PortAt pb hb p cv o0 ov w F) (k : Keeps G w w') (hd : ∀ i, F i → ¬ G i) : PortAt pb hb p cv o0 ov w' F := by
  have blk : ∀ i, F i → w'.heap[i]? = w.heap[i]? := fun i hi => k.block i (h.lt i hi) (hd i hi)
  exact ⟨h.out.keep (blk pb h.fp) fun g hg => blk g (h.fo g hg), h.come.keep fun g hg => blk g (h.fc g hg), h.fp, h.fc, h.fo, fun i hi => Nat.lt_of_lt_of_le (h.lt i hi) k.size⟩
theorem IsPort.keep {pb hb : Nat} {p : PortS} {w w' : World} {F G : Nat → Prop} (h : IsPort pb hb p w F) (k : Keeps G w w') (hd : ∀ i, F i → ¬ G i) : IsPort pb hb p w' F := by
  obtain ⟨cv, o0, ov, h⟩ := h
  exact ⟨cv, o0, ov, h.keep k hd⟩
/-- A house: its ports, what waits, its log, its clock. -/
structure HouseS where
  ports : List PortS
  turns : TurnSt
  log : List UInt8
  clock : Int
def houseArr (ab tb : Nat) (pv l0 lv : Value) (clock : Int) : Array Value := #[.pointer (some ⟨ab, 0, none⟩), pv, .pointer (some ⟨tb, 0, none⟩), l0, lv, .int .i64 clock]
def ptrV (b : Nat) : Value := .pointer (some ⟨b, 0, none⟩)
structure HouseAt (b ab tb : Nat) (pbs hbs : List Nat) (H : HouseS) (pv l0 lv : Value) (w : World) (Fh Ft : Nat → Prop) (Fp : Nat → Nat → Prop) : Prop where
  log : BldAt b 3 55 (houseArr ab tb pv l0 lv H.clock) lv (Lib.byteCells H.log) w
  prow : Row w 64 1 pv pbs.length (pbs.map ptrV)
  np : pbs.length = H.ports.length
  nh : hbs.length = H.ports.length
  port : ∀ t p pb hb, H.ports[t]? = some p → pbs[t]? = some pb → hbs[t]? = some hb → IsPort pb hb p w (Fp t)
  turns : IsTurns tb H.turns w Ft
  nt : H.turns.n = H.ports.length
  clock : I64 H.clock
  fb : Fh b
  fv : ∀ g, pv.ownBlock = some g → Fh g
  fl : ∀ g, lv.ownBlock = some g → Fh g
  lth : ∀ i, Fh i → i < w.heap.size
  ltt : ∀ i, Ft i → i < w.heap.size
  ltp : ∀ t i, Fp t i → i < w.heap.size
  a1 : ∀ i, Fh i → ¬ Ft i
  a2 : ∀ t i, Fh i → ¬ Fp t i
  a3 : ∀ t i, Ft i → ¬ Fp t i
  a4 : ∀ s t i, s ≠ t → Fp s i → ¬ Fp t i
/-- Lines that have come go where they wait, as far as there is room. -/
def shiftF : List ByteArray → TurnSt → Nat → List ByteArray × TurnSt
  | [], s, _ => ([], s)
  | x :: l, s, t => if (turnPush s t x).1 = 0 then shiftF l (turnPush s t x).2 t else (x :: l, s)
theorem turnPush_no {s : TurnSt} {t : Int} {x : ByteArray} (h : (turnPush s t x).1 ≠ 0) : (turnPush s t x).2 = s := by
  by_cases h1 : t < 0 ∨ (s.n : Int) ≤ t
  · rw [turnPush, if_pos h1]
  · by_cases h2 : 8 ≤ (s.at t.toNat).length
    · rw [turnPush, if_neg h1, if_pos h2]
    · exact absurd (by rw [turnPush, if_neg h1, if_neg h2]) h
theorem turnPush_n (s : TurnSt) (t : Int) (x : ByteArray) : (turnPush s t x).2.n = s.n := by
  by_cases h1 : t < 0 ∨ (s.n : Int) ≤ t
  · rw [turnPush, if_pos h1]
  · by_cases h2 : 8 ≤ (s.at t.toNat).length
    · rw [turnPush, if_neg h1, if_pos h2]
    · rw [turnPush, if_neg h1, if_neg h2]; simp [TurnSt.n]
theorem shiftF_n : ∀ (l : List ByteArray) (s : TurnSt) (t : Nat), (shiftF l s t).2.n = s.n
  | [], _, _ => rfl
  | x :: l, s, t => by
    rw [shiftF]
    split
    · rw [shiftF_n l, turnPush_n]
    · rfl
end Go.Proofs.YtabhpbkkjijfjaaGreatDoor
namespace Go.Proofs.YtabhpbkkjijfjaaGreatDoor
set_option maxRecDepth 100000
open Go.RowKit

set_option maxHeartbeats 4000000 in
set_option maxRecDepth 100000 in
theorem answer_quest {B0 : Nat} (b t : Nat) (w : World) (hT : Tab B0 w) (hB : B0 ≤ w.heap.size) :
    Calls Tryz.prog 25 #[ptrV b, .int .i64 t, .string (txt [63])] w fun e w' => e = .returned (.string (txt [110, 111, 32, 52])) ∧ Below w.heap.size w w' := by
  have hrd := read_quest w
  unfold zeroQ at hrd
  have HRD := Lib.hid hrd
  obtain ⟨S, hS⟩ : ∃ S, S = txt [63] := ⟨_, rfl⟩
  rw [← hS] at HRD
  have hl : S.toList = [63] := by rw [hS, txt_toList]
  have HT := Lib.hid (And.intro hT hB)
  rw [← hS]
  unfold ptrV
  clear hS hT hB hrd
  go_enter Tryz.func25, Tryz.ntmps25
  go_wp2_with fail
  refine HRD.out.mono ?_
  rintro e w1 ⟨rfl, hb1⟩
  have HB1 := Lib.hid hb1
  clear hb1
  go_upto_region 7 with fail
  refine wp_namedQ ?_
  intro W0 hW0
  have bq : W0.heap[w1.heap.size]? = some (.cells #[.int .i64 0, .string ⟨#[]⟩, .string ⟨#[]⟩, .int .i64 0, .int .i64 0, .int .i64 0, .slice none 0 0] 103 (0, 0)) := by rw [hW0]; exact blk_alloc (blk_last w1 _ rfl) _
  have ba : W0.heap[w1.heap.size + 1]? = some (.cells #[.int .i64 4, .int .i64 0, .int .i64 0, .int .i64 0, .int .i64 0, .int .i64 0, .int .i64 0, .int .i64 0, .string ⟨#[]⟩, .slice none 0 0] 109 (0, 0)) := by rw [hW0]; exact blk_last _ _ (by simp)
  have hb0 : Below w.heap.size w W0 := by rw [hW0]; exact (HB1.out.alloc HB1.out.size _).alloc (by simp; have := HB1.out.size; omega) _
  have z0 := hb0.size
  have HTL := Lib.hid (tell_four B0 W0 (HT.out.1.up hb0 HT.out.2) (by have := HT.out.2; omega))
  have HB0 := Lib.hid hb0
  have q0 := Joins.cell_of_block bq 0
  have a0 := Joins.cell_of_block ba 0
  have a1 := Joins.cell_of_block ba 1
  have a2 := Joins.cell_of_block ba 2
  have a3 := Joins.cell_of_block ba 3
  have a4 := Joins.cell_of_block ba 4
  have a5 := Joins.cell_of_block ba 5
  have a6 := Joins.cell_of_block ba 6
  have a7 := Joins.cell_of_block ba 7
  have a8 := Joins.cell_of_block ba 8
  have a9 := Joins.cell_of_block ba 9
  simp at q0 a0 a1 a2 a3 a4 a5 a6 a7 a8 a9
  clear hW0 bq ba hb0 z0
  go_wp2_with fail
  refine HTL.out.mono ?_
  rintro e w2 ⟨rfl, hb2⟩
  have HB2 := Lib.hid (HB0.out.trans (hb2.mono HB0.out.size))
  clear hb2
  go_wp2_with fail
  go_ret
  exact ⟨rfl, HB2.out⟩
end Go.Proofs.YtabhpbkkjijfjaaGreatDoor
namespace Go.Proofs.YtabhpbkkjijfjaaGreatDoor
set_option maxRecDepth 100000
open Go.RowKit

def hallArr (ab t : Nat) (d : Int) (wv : Value) (ser : Int) (kv : Value) : Array Value := #[.pointer (some ⟨ab, 0, none⟩), .int .i64 t, .int .i64 d, wv, .int .i64 ser, kv]
set_option maxHeartbeats 1000000 in
set_option maxRecDepth 100000 in
theorem hall_made (ab t : Nat) (d : Int) (w : World) (ht : t < 64) : Calls Tryz.prog 19 #[.pointer (some ⟨ab, 0, none⟩), .int .i64 (t : Int), .int .i64 d] w fun e w' => e = .returned (.tuple #[.pointer (some ⟨w.heap.size, 0, none⟩), .int .i64 0]) ∧ w' = w.alloc (.cells (hallArr ab t d (.slice none 0 0) 0 (.slice none 0 0)) 95 (0, 0)) := by
  have h1 : decide ((t : Int) < 0) = false := decide_eq_false (by omega)
  have h2 : decide ((t : Int) ≥ 64) = false := decide_eq_false (by omega)
  have h3 : decide ((64 : Int) ≤ (t : Int)) = false := decide_eq_false (by omega)
  have h4 : decide (64 ≤ t) = false := decide_eq_false (by omega)
  unfold hallArr
  go_enter Tryz.func19, Tryz.ntmps19
  go_wp2_with fail
  go_ret2
  exact ⟨rfl, rfl⟩
end Go.Proofs.YtabhpbkkjijfjaaGreatDoor
namespace Go.Proofs.YtabhpbkkjijfjaaGreatDoor
set_option maxRecDepth 100000
open Go.RowKit

theorem infoCell : (Tryz.prog.info? 145).map (fun i => (i.zero, i.size, i.bytes)) = some (some (.agg #[.int .i64 0, .int .i64 0]), 2, 16) := by kernel_rfl

theorem sl_own_up {w w' : World} {base : Nat} {e : TypeId} {k bytes n : Nat} {a : Option Addr} {cap : Nat} {fl : List Value} (h : w.ownsRow base e k (.slice a n cap) n fl) (hk : 0 < k) (hb : n * bytes ≤ 140737488351232) (hg : Below w.heap.size w w') : Sl w' k bytes a n cap fl := by
  obtain ⟨a', c', e1, hs⟩ := sl_of_own h hb
  simp only [Value.slice.injEq, true_and] at e1
  obtain ⟨rfl, rfl⟩ := e1
  exact hs.below hk hg

theorem encCell_one (zs : List (Int × Int)) : ∀ u ∈ zs.flatMap encCell, u.oneCell' = true := by
  intro u hu
  obtain ⟨k, _, h⟩ := List.mem_flatMap.1 hu
  simp only [encCell, List.mem_cons, List.not_mem_nil, or_false] at h
  rcases h with rfl | rfl <;> rfl

/-- A list of cells that the call owns. -/
def Cells (w : World) (zs : List (Int × Int)) (e : Ending) (w' : World) : Prop :=
  ∃ v', e = .returned v' ∧ Below w.heap.size w w' ∧ w'.ownsRow w.heap.size 145 2 v' zs.length (zs.flatMap encCell)

end Go.Proofs.YtabhpbkkjijfjaaGreatDoor
