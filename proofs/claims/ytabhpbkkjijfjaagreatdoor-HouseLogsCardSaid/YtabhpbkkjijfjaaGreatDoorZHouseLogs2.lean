/-
  Bytes that the call has gathered, as a text; texts joined; A text's pieces between a byte, plain; Texts as lists of bytes: their parts, joined and compared; Small laws of memory: make, copy inside a drawn region.
-/
import Derived.Lib.ConvBytes
import Derived.Lib.AtoiErrMem
import Derived.Laws.BytesArg
import Derived.Lib.Split
import Derived.Lib.SplitLaws
import Derived.Lib.Bytealg
import Derived.Laws.MakeOwn
import Derived.Laws.OwnMore
import Derived.Laws.Entries
import Derived.Deep.RegionLaw
import Derived.Test.YtabhpbkkjijfjaaGreatDoorKinds
namespace Go.Proofs.YtabhpbkkjijfjaaGreatDoor
set_option maxRecDepth 100000
open Go.RowKit

/-- A text out of a list of bytes. -/
def txt (l : List UInt8) : ByteArray := ⟨l.toArray⟩
theorem txt_eta (s : ByteArray) : txt s.data.toList = s := by cases s; simp [txt]
theorem txt_data (l : List UInt8) : (txt l).data.toList = l := by simp [txt]
theorem txt_size (l : List UInt8) : (txt l).size = l.length := by simp [txt, ByteArray.size]
theorem txt_add (a b : List UInt8) : txt a ++ txt b = txt (a ++ b) := by
  have h := Joins.data_append (txt a) (txt b)
  rw [txt_data, txt_data] at h
  rw [← txt_eta (txt a ++ txt b), h]
theorem txt_inj {a b : List UInt8} (h : txt a = txt b) : a = b := by rw [← txt_data a, h, txt_data]
def encB (l : List UInt8) : List Value := l.map fun c => .int .u8 c.toNat
theorem encB_append (a b : List UInt8) : encB (a ++ b) = encB a ++ encB b := by simp [encB]
theorem encB_length (a : List UInt8) : (encB a).length = a.length := by simp [encB]
theorem infoByte : (Tryz.prog.info? 5).map (fun i => (i.zero, i.size, i.bytes)) = some (some (.int .u8 0), 1, 1) := by kernel_rfl
theorem conv_own {w : World} {base n : Nat} {v : Value} {l : List UInt8} (h : w.ownsRow base 5 1 v n (encB l)) : (convert 51 9 v).run Tryz.prog w = .ok (.string (txt l)) w := by
  have hl : l.length = n := by have := h.1; rw [encB_length] at this; omega
  rcases h.2 with ⟨rfl, h0⟩ | ⟨g, cap, cur, rfl, _, hg, _⟩
  · have hn : l = [] := List.eq_nil_of_length_eq_zero (by omega)
    subst hn
    exact run_convert_bytes_nil w _ _ Tryz.underlying51 Tryz.underlying5 0 0 _ Tryz.underlying9
  · have hc := h.cells (g := g) rfl
    have h1 := run_convert_bytes_arg (P := Tryz.prog) w 51 5 Tryz.underlying51 Tryz.underlying5 g 0 n cap (l.map fun c => (c.toNat : Int)) (by simp [hl]) (fun i hi => by
      have := hc i (.int .u8 (l.getD i 0).toNat) (by simp [encB, List.getD, show i < l.length by omega])
      rw [Addr.add_lit] at this
      rw [this]
      simp [List.getD, show i < l.length by omega]) 9 Tryz.underlying9
    rw [h1]
    congr 2
    rw [← txt_eta (strOfNums _), strOfNums_data]
    congr 1
    rw [List.map_map]
    have e : ((fun n : Int => UInt8.ofNat n.toNat) ∘ fun c : UInt8 => (c.toNat : Int)) = id := by funext c; simp
    rw [e, List.map_id]
end Go.Proofs.YtabhpbkkjijfjaaGreatDoor
namespace Go.Proofs.YtabhpbkkjijfjaaGreatDoor
set_option maxRecDepth 100000
open Go.RowKit

/-- The pieces of a text between a byte. -/
def splC (c : UInt8) : List UInt8 → List (List UInt8)
  | [] => [[]]
  | b :: r => if b = c then [] :: splC c r else match splC c r with
    | [] => [[b]]
    | p :: q => (b :: p) :: q
theorem splC_ne (c : UInt8) : ∀ l, splC c l ≠ []
  | [] => by simp [splC]
  | b :: r => by
    rw [splC]
    split
    · simp
    · split <;> simp
theorem splC_hit {c : UInt8} (r : List UInt8) : splC c (c :: r) = [] :: splC c r := by rw [splC, if_pos rfl]
theorem splC_miss {c b : UInt8} {r p : List UInt8} {q : List (List UInt8)} (h : b ≠ c) (e : splC c r = p :: q) : splC c (b :: r) = (b :: p) :: q := by
  rw [splC, if_neg h, e]
theorem splC_len (c : UInt8) : ∀ l, (splC c l).length = l.count c + 1
  | [] => by simp [splC]
  | b :: r => by
    by_cases h : b = c
    · subst h
      rw [splC_hit, List.length_cons, splC_len b r, List.count_cons_self]
    · obtain ⟨p, q, e⟩ := List.exists_cons_of_ne_nil (splC_ne c r)
      have hl := splC_len c r
      rw [e, List.length_cons] at hl
      rw [splC_miss h e, List.length_cons, List.count_cons_of_ne h]
      omega
theorem splC_piece (c : UInt8) : ∀ l, ∀ p ∈ splC c l, p.length ≤ l.length
  | [], p, hp => by
    rw [splC, List.mem_singleton] at hp
    rw [hp]; exact Nat.le_refl _
  | b :: r, p, hp => by
    by_cases h : b = c
    · subst h
      rw [splC_hit] at hp
      rcases List.mem_cons.1 hp with rfl | hp
      · exact Nat.zero_le _
      · exact Nat.le_succ_of_le (splC_piece b r p hp)
    · obtain ⟨u, v, e⟩ := List.exists_cons_of_ne_nil (splC_ne c r)
      have hi := splC_piece c r
      rw [splC_miss h e] at hp
      rw [e] at hi
      rcases List.mem_cons.1 hp with rfl | hp
      · have := hi u (by simp)
        simp only [List.length_cons]; omega
      · have := hi p (by simp [hp])
        rw [List.length_cons]; omega
/-- Without the byte: one piece. -/
theorem splC_none {c : UInt8} : ∀ {l : List UInt8}, l.count c = 0 → splC c l = [l]
  | [], _ => rfl
  | b :: r, h => by
    have hb : b ≠ c := fun e => by subst e; rw [List.count_cons_self] at h; omega
    rw [List.count_cons_of_ne hb] at h
    exact splC_miss hb (splC_none h)
/-- Cut at the first such byte. -/
theorem splC_first {c : UInt8} : ∀ (i : Nat) (l : List UInt8), Lib.indexByte l c = i → splC c l = l.take i :: splC c (l.drop (i + 1))
  | i, [], h => by
    have h2 : (-1 : Int) = i := h
    omega
  | i, b :: r, h => by
    by_cases hb : b = c
    · subst hb
      have : i = 0 := by
        have h2 : (0 : Int) = i := by simpa [Lib.indexByte] using h
        omega
      subst this
      rw [splC_hit]; rfl
    · have hbb : (b == c) = false := by simpa using hb
      by_cases hr : Lib.indexByte r c = -1
      · exfalso
        simp [Lib.indexByte, hbb, hr] at h
      · have hz : ((Lib.indexByte r c) == -1) = false := by simpa using hr
        have hj : Lib.indexByte r c + 1 = i := by simpa [Lib.indexByte, hbb, hz] using h
        obtain ⟨j, rfl⟩ : ∃ j, i = j + 1 := by
          cases i with
          | zero =>
            exfalso
            exact hr (by have := Lib.indexByte_ge r c; omega)
          | succ j => exact ⟨j, rfl⟩
        have e2 : Lib.indexByte r c = (j : Int) := by omega
        have e := splC_first j r e2
        rw [splC_miss hb e]
        rfl
theorem index_oneS : ∀ (l : List UInt8) (c : UInt8), Lib.index l [c] = Lib.indexByte l c
  | [], c => by simp [Lib.index, Lib.indexByte]
  | a :: l, c => by
    rw [Lib.index, Lib.indexByte, index_oneS l c]
    have : ([c] : List UInt8).isPrefixOf (a :: l) = (a == c) := by
      simp only [List.isPrefixOf, Bool.and_true]
      rw [Bool.eq_iff_iff, beq_iff_eq, beq_iff_eq]
      exact eq_comm
    rw [this]
theorem index_none {c : UInt8} : ∀ {l : List UInt8}, Lib.indexByte l c = -1 → l.count c = 0
  | [], _ => rfl
  | b :: r, h => by
    by_cases hb : b = c
    · subst hb; simp [Lib.indexByte] at h
    · have hbb : (b == c) = false := by simpa using hb
      rw [List.count_cons_of_ne hb]
      by_cases hr : Lib.indexByte r c = -1
      · exact index_none hr
      · exfalso
        have hz : ((Lib.indexByte r c) == -1) = false := by simpa using hr
        have hj : Lib.indexByte r c + 1 = -1 := by simpa [Lib.indexByte, hbb, hz] using h
        have := Lib.indexByte_ge r c
        omega
theorem splitK_all (c : UInt8) : ∀ (k : Nat) (l : List UInt8), l.count c = k → Lib.splitK [c] 0 k l = splC c l
  | 0, l, h => by rw [splC_none h]; rfl
  | k + 1, l, h => by
    rw [Lib.splitK, index_oneS]
    by_cases hi : Lib.indexByte l c = -1
    · exact absurd (index_none hi) (by omega)
    · have hz : ((Lib.indexByte l c) == -1) = false := by simpa using hi
      rw [hz]
      obtain ⟨i, hi2⟩ : ∃ i : Nat, Lib.indexByte l c = i := ⟨(Lib.indexByte l c).toNat, by have := Lib.indexByte_ge l c; omega⟩
      have hs := splC_first i l hi2
      rw [hi2, hs]
      have hcount : (l.drop (i + 1)).count c = k := by
        have h1 := splC_len c l
        rw [hs, List.length_cons, splC_len] at h1
        omega
      simp only [Int.toNat_natCast, Nat.add_zero, List.length_singleton, Bool.false_eq_true, if_false]
      rw [splitK_all c k _ hcount]
/-- One more byte at the end. -/
theorem splC_snoc_hit (c : UInt8) : ∀ l, splC c (l ++ [c]) = splC c l ++ [[]]
  | [] => by rw [List.nil_append, splC_hit]; rfl
  | b :: r => by
    rw [List.cons_append]
    by_cases hb : b = c
    · subst hb
      rw [splC_hit, splC_hit, splC_snoc_hit b r]; rfl
    · obtain ⟨p, q, e⟩ := List.exists_cons_of_ne_nil (splC_ne c r)
      have h2 := splC_snoc_hit c r
      rw [e] at h2
      rw [splC_miss hb e, splC_miss hb h2]; rfl
theorem splC_snoc_miss {c x : UInt8} (hx : x ≠ c) : ∀ (l : List UInt8), ∃ a p, splC c l = a ++ [p] ∧ splC c (l ++ [x]) = a ++ [p ++ [x]]
  | [] => ⟨[], [], rfl, by rw [List.nil_append]; exact splC_miss hx rfl⟩
  | b :: r => by
    obtain ⟨a, p, e1, e2⟩ := splC_snoc_miss hx r
    rw [List.cons_append]
    by_cases hb : b = c
    · subst hb
      exact ⟨[] :: a, p, by rw [splC_hit, e1]; rfl, by rw [splC_hit, e2]; rfl⟩
    · cases a with
      | nil => exact ⟨[], b :: p, by rw [splC_miss hb e1]; rfl, by rw [splC_miss hb e2]; rfl⟩
      | cons u v => exact ⟨(b :: u) :: v, p, by rw [splC_miss hb e1]; rfl, by rw [splC_miss hb e2]; rfl⟩
end Go.Proofs.YtabhpbkkjijfjaaGreatDoor
namespace Go.Proofs.YtabhpbkkjijfjaaGreatDoor
set_option maxRecDepth 100000
open Go.RowKit

theorem txt_toList (l : List UInt8) : (txt l).toList = l := by rw [ByteArray.toList_eq, txt_data]
theorem txt_tail (c : UInt8) (r : List UInt8) : (txt (c :: r)).extract 1 (txt (c :: r)).size = txt r := by
  have e : ((txt (c :: r)).extract 1 (txt (c :: r)).size).data.toList = r := by
    rw [ByteArray.data_extract, Array.toList_extract, txt_data, txt_size]
    simp [List.extract]
  rw [← txt_eta ((txt (c :: r)).extract 1 (txt (c :: r)).size), e]
theorem txt_head (c : UInt8) (r : List UInt8) (h : 0 < (txt (c :: r)).size) : (txt (c :: r))[0] = c := rfl
/-- What a walk asks of a text that is not empty. -/
theorem txt_cons (c : UInt8) (r : List UInt8) : ∃ S, S = txt (c :: r) ∧ (¬ S.toList = []) ∧ S.toList.isEmpty = false ∧ S.extract 1 (r.length + 1) = txt r ∧ S.size = r.length + 1 ∧ ∃ h : 0 < S.size, S[0].toNat = c.toNat :=
  ⟨_, rfl, by rw [txt_toList]; simp, by rw [txt_toList]; rfl, by have := txt_tail c r; rwa [txt_size] at this, by rw [txt_size]; rfl, by rw [txt_size]; simp, by rw [txt_head]⟩

theorem extract_list (l : List UInt8) (i j : Nat) : (txt l).extract i j = txt ((l.take j).drop i) := by
  have e : ((txt l).extract i j).data.toList = (l.take j).drop i := by
    rw [ByteArray.data_extract, Array.toList_extract, txt_data]
    simp [List.extract, List.drop_take]
  rw [← txt_eta ((txt l).extract i j), e]
theorem two_eq (x y : UInt8) (t : List UInt8) (a b : UInt8) : (((txt (x :: y :: t)).extract 0 2).toList == [a, b]) = decide (x.toNat = a.toNat ∧ y.toNat = b.toNat) := by
  rw [extract_list, txt_toList]
  have e : ((x :: y :: t).take 2).drop 0 = [x, y] := rfl
  rw [e, Bool.eq_iff_iff, beq_iff_eq, decide_eq_true_iff]
  simp [UInt8.toNat_inj]

end Go.Proofs.YtabhpbkkjijfjaaGreatDoor
namespace Go.Proofs.YtabhpbkkjijfjaaGreatDoor
set_option maxRecDepth 100000
open Go.RowKit

theorem run_make_rowN {P : Program} (t e : TypeId) (i : TypeInfo) (z : Value) (ht : P.underlying t = some (.slice e)) (hi : P.info? e = some i) (hz : i.zero = some z)
    (kl kc : IntKind) (n c : Nat) (hnc : n ≤ c) (hbytes : i.bytes * c ≤ 281474976710656) (h63 : c ≤ 9223372036854775807) (w : World) :
    (Instr.makeSlice t (.int kl (n : Int)) (.int kc (c : Int))).run P w = .ok (.slice (some ⟨w.heap.size, 0, none⟩) n c) (w.alloc (.cells (madeCells z.cells (c * i.size)) e)) := by
  have hb : (i.bytes : Int) * (c : Int) ≤ 281474976710656 := by
    have h : ((i.bytes * c : Nat) : Int) ≤ 281474976710656 := by omega
    rwa [Int.natCast_mul] at h
  have hr := run_make (P := P) w t e i z ht hi hz kl kc n c (by omega) (by omega) hb (by omega)
  simp only [Int.toNat_natCast] at hr
  exact hr
theorem step_copy_eq {P : Program} {ops : Array Oper} {o : Oper} {a : Act} {w : World} {K : Act → World → Prop} {Q : Exit → Act → World → Prop} {E : Prop} (hgd : o.guard = none) (d s : Operand) (t t' : TypeId)
    (ho : o.op = .call { callee := .builtin .copy, args := #[d, s], argTypes := #[t, t'] }) (v u : Value) (hd : a.eval d = v) (hs : a.eval s = u) {v' : Value} {w' : World}
    (hr : (Builtin.copy_ #[t, t'] o.type #[v, u]).run P w = .ok v' w') (h : K (a.put o.dst v') w') :
    if Region.wanted o (yielded ops a.tmps) = true then Oper.wp P o a w K Q else E := by
  have hw : Region.wanted o (yielded ops a.tmps) = true := by simp [Region.wanted, hgd]
  rw [if_pos hw]
  unfold Oper.wp execOp
  simp only [ho, resolve, invoke, builtin, Sem.run_bind, Sem.run_pure, Result.andThen_ok, List.map_toArray, List.map_cons, List.map_nil, hd, hs, hr]
  exact h
theorem grown_of_below {a w : World} (h : Below a.heap.size a w) (row : Option Nat) : a.grownBy w row := ⟨h.os, h.tape, h.output, h.size, fun i hi _ => h.block i hi⟩
theorem own_below {w w' : World} {base : Nat} {e : TypeId} {size n : Nat} {v : Value} {xs : List Value} (h : w.ownsRow base e size v n xs) (hb : Below w.heap.size w w') : w'.ownsRow base e size v n xs :=
  h.kept (grown_of_below hb none) (by cases v.ownBlock <;> simp)
/-- A row of noughts. -/
def zerosA (n : Nat) : Array Value := (List.replicate n (Value.int .u8 0)).toArray
theorem zerosA_get {n j : Nat} (h : j < n) : (zerosA n)[j]? = some (.int .u8 0) := by simp [zerosA, h]
theorem zerosA_size (n : Nat) : (zerosA n).size = n := by simp [zerosA]
theorem infoByteM : (Tryz.prog.info? 5).map (fun i => (i.zero, i.size, i.bytes)) = some (some (.int .u8 0), 1, 1) := by kernel_rfl
/-- make([]byte, n): a row of noughts. -/
theorem make_bytes (n c : Nat) (hnc : n ≤ c) (hc : c ≤ 281474976710656) (w : World) :
    (Instr.makeSlice 51 (.int .i64 (n : Int)) (.int .i64 (c : Int))).run Tryz.prog w = .ok (.slice (some ⟨w.heap.size, 0, none⟩) n c) (w.alloc (.cells (zerosA c) 5)) := by
  obtain ⟨i0, hi, hz0, hz1, hz2⟩ := info_parts infoByteM
  have h := run_make_rowN (P := Tryz.prog) 51 5 i0 _ Tryz.underlying51 hi hz0 .i64 .i64 n c hnc (by rw [hz2]; omega) (by omega) w
  rw [h]
  congr 2
  rw [hz1, Nat.mul_one]
  have e : madeCells (Value.int IntKind.u8 0).cells c = zerosA c := by
    apply Array.toList_inj.1
    show (madeCells #[Value.int IntKind.u8 0] c).toList = _
    rw [toList_madeCells_one]; simp [zerosA]
  rw [e]
end Go.Proofs.YtabhpbkkjijfjaaGreatDoor
