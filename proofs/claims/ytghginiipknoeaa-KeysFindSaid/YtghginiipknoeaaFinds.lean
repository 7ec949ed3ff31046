/-
  keys.Find and the document's FindKey: the first key of a text, and its rights.
-/
import Derived.Test.YtghginiipknoeaaTables
import Derived.Shelf.SlicesQ.IndexFunc
import Derived.Shelf.SlGeneric
import Derived.Ground.SlgfProg
import Derived.Lib.SliceRun
namespace Go.Proofs.Ytghginiipknoeaa
open Go.RowKit Go.Shelf Go.Lib

theorem wrap_toNat (Z : BitVec 64) : IntKind.i64.wrap (Z.toNat : Int) = Z.toInt := by
  rw [IntKind.wrap_i64, BitVec.toInt_eq_toNat_cond]
  have := Z.isLt
  split <;> omega
theorem toInt_of (a : Int) (h : I64 a) : (BitVec.ofInt 64 a).toInt = a := by
  have h1 := h.1
  have h2 := h.2
  rw [BitVec.toInt_ofInt, Int.bmod_def]
  split <;> omega
theorem bits_and_toInt (a b : Int) : bits .and .i64 a b = (BitVec.ofInt 64 a &&& BitVec.ofInt 64 b).toInt := wrap_toNat _
theorem bits_or_toInt (a b : Int) : bits .or .i64 a b = (BitVec.ofInt 64 a ||| BitVec.ofInt 64 b).toInt := wrap_toNat _
theorem and_or_bv (X Y : BitVec 64) : X &&& Y = Y ↔ X ||| Y = X := by
  constructor
  · intro h; ext i hi
    have := congrArg (fun z : BitVec 64 => z.getLsbD i) h
    simp only [BitVec.getLsbD_and] at this
    simp only [BitVec.getElem_or]
    simp only [BitVec.getLsbD_eq_getElem hi] at this
    cases h1 : X[i] <;> cases h2 : Y[i] <;> simp_all
  · intro h; ext i hi
    have := congrArg (fun z : BitVec 64 => z.getLsbD i) h
    simp only [BitVec.getLsbD_or] at this
    simp only [BitVec.getElem_and]
    simp only [BitVec.getLsbD_eq_getElem hi] at this
    cases h1 : X[i] <;> cases h2 : Y[i] <;> simp_all
/-- That rights hold others may be said by 'and' or by 'or'. -/
theorem rights_iff {a b : Int} (ha : I64 a) (hb : I64 b) : bits .and .i64 a b = b ↔ bits .or .i64 a b = a := by
  rw [bits_and_toInt, bits_or_toInt]
  constructor
  · intro h
    have h1 : BitVec.ofInt 64 a &&& BitVec.ofInt 64 b = BitVec.ofInt 64 b := BitVec.eq_of_toInt_eq (by rw [h, toInt_of b hb])
    rw [(and_or_bv _ _).1 h1, toInt_of a ha]
  · intro h
    have h1 : BitVec.ofInt 64 a ||| BitVec.ofInt 64 b = BitVec.ofInt 64 a := BitVec.eq_of_toInt_eq (by rw [h, toInt_of a ha])
    rw [(and_or_bv _ _).2 h1, toInt_of b hb]

/-- What the first key of a text gives: its name, or the error. -/
def rightsOf (rights : Int) (k : KeyD) : ByteArray × Int := if bits .and .i64 k.rights rights = rights then (k.name, 0) else (⟨#[]⟩, 10)
def findK (text : ByteArray) (rights : Int) : List KeyD → ByteArray × Int
  | [] => (⟨#[]⟩, 6)
  | k :: r => if k.text.toList == text.toList then rightsOf rights k else findK text rights r
theorem findK_hit {text : ByteArray} {rights : Int} {kd : KeyD} (ht : (kd.text.toList == text.toList) = true) : ∀ {ks : List KeyD} {k : Nat}, ks[k]? = some kd → (∀ (j : Nat) (d : KeyD), j < k → ks[j]? = some d → (d.text.toList == text.toList) = false) → findK text rights ks = rightsOf rights kd
  | [], k, h, _ => by simp at h
  | d :: r, 0, h, _ => by simp at h; subst h; simp only [findK, ht, if_true]
  | d :: r, k + 1, h, hj => by
    have := hj 0 d (by omega) rfl
    simp only [findK, this, Bool.false_eq_true, if_false]
    exact findK_hit ht (ks := r) (k := k) (by simpa using h) (fun j e hlt he => hj (j + 1) e (by omega) (by simpa using he))
theorem findK_miss {text : ByteArray} {rights : Int} : ∀ {ks : List KeyD}, (∀ (j : Nat) (d : KeyD), ks[j]? = some d → (d.text.toList == text.toList) = false) → findK text rights ks = (⟨#[]⟩, 6)
  | [], _ => rfl
  | d :: r, hj => by
    have := hj 0 d rfl
    simp only [findK, this, Bool.false_eq_true, if_false]
    exact findK_miss (ks := r) (fun j e he => hj (j + 1) e (by simpa using he))
def Found (w : World) (text : ByteArray) (rights : Int) (ks : List KeyD) (e : Ending) (w' : World) : Prop :=
  e = .returned (.tuple #[.string (findK text rights ks).1, .int .i64 (findK text rights ks).2]) ∧ Below w.heap.size w w'

set_option maxRecDepth 100000 in
set_option maxHeartbeats 1000000 in
theorem refFind_any (s : Int) (text : ByteArray) (rights : Int) (ks : List KeyD) (a : Option Addr) (cap : Nat) (w : World) (hs : Sl w 3 40 a ks.length cap (ks.flatMap encKey)) (hg : ∀ k ∈ ks, GoodKey k) (hr : I64 rights) :
    Calls Try.prog 31 #[.agg #[.int .i64 s, .slice a ks.length cap], .string text, .int .i64 rights] w (Found w text rights ks) := by
  have hn := hs.wide
  go_enter Try.func31, Try.ntmps31
  go_wp2_with fail
  go_loopw [13] (fun i wr => ∃ k, k ≤ ks.length ∧ i = .int .i64 (k : Nat) ∧ Aside (∀ (j : Nat) (d : KeyD), j < k → ks[j]? = some d → (d.text.toList == text.toList) = false) ∧ ∃ x : Grow (w.alloc (.cells #[.int .i64 s, .slice a ks.length cap] 28)), wr = x.val) (fun i _ => ks.length - (intOf i).toNat)
  case atStart =>
    exact ⟨0, Nat.zero_le _, rfl, fun j d h => absurd h (Nat.not_lt_zero _), ⟨_, Below.refl _ _⟩, rfl⟩
  case round =>
    obtain ⟨k, hk, rfl, A, x, rfl⟩ := hrel
    have hB0 := ((Below.refl w.heap.size w).alloc (Nat.le_refl _) _).trans (x.below.mono (show w.heap.size ≤ _ by simp))
    by_cases hlt : k < ks.length
    · obtain ⟨kd, hkd⟩ : ∃ kd, ks[k]? = some kd := ⟨ks[k], List.getElem?_eq_getElem hlt⟩
      have hgk : I64 kd.rights := (hg kd (List.mem_of_getElem? hkd)).2.2
      have RI := Lib.hid (rights_iff hgk hr)
      obtain ⟨b, o, rfl, hrow⟩ := hs.row (by omega)
      have hb := hs.lt (by omega) (by omega)
      have e0 := hrow _ _ (flat_at (k := 3) (enc := encKey) (by omega) (fun _ => rfl) ks k 0 kd hkd (by omega))
      have e1 := hrow _ _ (flat_at (k := 3) (enc := encKey) (by omega) (fun _ => rfl) ks k 1 kd hkd (by omega))
      have e2 := hrow _ _ (flat_at (k := 3) (enc := encKey) (by omega) (fun _ => rfl) ks k 2 kd hkd (by omega))
      have g0 : x.val.cell? ⟨b, o + k * 3, none⟩ = some (.string kd.text) := by rw [hB0.cell hb]; exact e0
      have g1 : x.val.cell? ⟨b, o + k * 3 + 1, none⟩ = some (.string kd.name) := by rw [hB0.cell hb]; exact e1
      have g2 : x.val.cell? ⟨b, o + k * 3 + 2, none⟩ = some (.int .i64 kd.rights) := by rw [hB0.cell hb]; exact e2
      have d1 : x.val.cell? ⟨w.heap.size, 1, none⟩ = some (.slice (some ⟨b, o, none⟩) ks.length cap) := x.cell (by simp)
      have i1 : (0 : Int) ≤ (k : Int) := by omega
      have i2 : (k : Int) < (ks.length : Int) := by omega
      have HKD := Lib.hid hkd
      have HR := Lib.hid hgk
      clear hkd e0 e1 e2 hrow hg hr hgk
      obtain ⟨m, hm⟩ : ∃ m, (kd.text.toList == text.toList) = m := ⟨_, rfl⟩
      cases m with
      | true =>
        obtain ⟨t, hT⟩ : ∃ t, t = decide (bits .or .i64 kd.rights rights = kd.rights) := ⟨_, rfl⟩
        cases t with
        | true =>
          have hor : bits .or .i64 kd.rights rights = kd.rights := of_decide_eq_true hT.symm
          have HA := Lib.hid (RI.out.2 hor)
          clear hT
          go_wp2_with fail
          refine bodyPost_ret (v := .tuple #[.string kd.name, .int .i64 0]) (by simp [results, Try.results31, go_sem]) rfl ⟨?_, ?_⟩
          · rw [findK_hit hm HKD.out A.out, rightsOf, if_pos HA.out]
          · exact hB0.alloc hB0.size _
        | false =>
          have hor : ¬ bits .or .i64 kd.rights rights = kd.rights := of_decide_eq_false hT.symm
          have HA := Lib.hid (fun h => hor (RI.out.1 h))
          clear hT
          go_wp2_with fail
          refine bodyPost_ret (v := .tuple #[.string ⟨#[]⟩, .int .i64 10]) (by simp [results, Try.results31, go_sem]) rfl ⟨?_, ?_⟩
          · rw [findK_hit hm HKD.out A.out, rightsOf, if_neg HA.out]
          · exact hB0.alloc hB0.size _
      | false =>
        go_wp2_with fail
        refine ⟨⟨k + 1, by omega, by go_num, ?_, ⟨_, x.below.alloc x.below.size _⟩, rfl⟩, by simp [intOf]; omega⟩
        intro j d hj hd
        by_cases hjk : j = k
        · subst hjk
          rw [HKD.out] at hd
          cases hd
          exact hm
        · exact A.out j d (by omega) hd
    · obtain rfl : k = ks.length := by omega
      go_wp2_with fail
      refine bodyPost_ret (v := .tuple #[.string ⟨#[]⟩, .int .i64 6]) (by simp [results, Try.results31, go_sem]) rfl ?_
      exact ⟨by rw [findK_miss (fun j d h => A.out j d (by have := List.getElem?_eq_some_iff.1 h; exact this.1) h)], hB0⟩
end Go.Proofs.Ytghginiipknoeaa
