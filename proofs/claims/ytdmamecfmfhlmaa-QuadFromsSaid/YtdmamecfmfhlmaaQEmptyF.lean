/-
  quad.Empty.
-/
import Derived.Test.YtdmamecfmfhlmaaQEmpty
namespace Go.Proofs.Ytdmamecfmfhlmaa
set_option maxRecDepth 100000
open Go.RowKit

/-- What a function of quad's comes to that makes a square: its number, or 0 and an error. -/
def Gets (w : World) (F : Nat → Prop) (b t : Nat) (S : ArS) (k n : Nat) (T : Tree) (e : Ending) (w' : World) : Prop :=
  ∃ (r er : Int) (S' : ArS) (F' : Nat → Prop), e = .returned (.tuple #[.int .i64 r, .int .i64 er]) ∧ I64 r ∧ Res t S S' 0 er k ∧ (er = 0 → Den S'.L t n T r) ∧ (er ≠ 0 → r = 0) ∧ IsAr b S' w' F' ∧ (∀ i, F' i → F i ∨ w.heap.size ≤ i) ∧ Keeps F w w'
/-- The hand that such a function makes. -/
theorem hand_new {b t : Nat} {F : Nat → Prop} {S : ArS} {w : World} (h : IsAr b S w F) : HandAt w.heap.size b t 0 78 none (w.alloc (.cells #[.pointer (some ⟨b, 0, none⟩), .int .i64 t, .int .i64 0] 78 (0, 0))) ∧ ¬ F w.heap.size ∧ IsAr b S (w.alloc (.cells #[.pointer (some ⟨b, 0, none⟩), .int .i64 t, .int .i64 0] 78 (0, 0))) F :=
  ⟨⟨_, blk_last w _ rfl, rfl, rfl, rfl, rfl⟩, fun e => by have := h.lt _ e; omega, h.below ((Below.refl _ _).alloc (Nat.le_refl _) _)⟩
/-- The hand forgotten. -/
theorem HState.close {w X w1 : World} {F F1 : Nat → Prop} {b t : Nat} {ty : TypeId} {rest : Option Value} {S1 : ArS} {b1 : Int} (h : HState X F w.heap.size b t ty rest S1 b1 F1 w1) (hX : Below w.heap.size w X) : IsAr b S1 w1 F1 ∧ (∀ i, F1 i → F i ∨ w.heap.size ≤ i) ∧ Keeps F w w1 :=
  ⟨h.1, fun i hi => (h.2.2.1 i hi).imp id (fun h1 => Nat.le_trans hX.size h1), (Keeps.of_below hX).trans h.2.2.2 fun i hi hh => by
    rcases hh with h1 | h1
    · exact h1
    · omega⟩
set_option maxHeartbeats 2000000 in
theorem qempty_any (b t : Nat) (S : ArS) (F : Nat → Prop) (level : Nat) (w : World) (h : IsAr b S w F) (wf : Wf S.L) (ht : t < 64) (h44 : level ≤ 44) :
    Calls Try.prog 11 #[.pointer (some ⟨b, 0, none⟩), .int .i64 t, .int .i64 level] w (Gets w F b t S 0 level (emptyT level)) := by
  have t1 : decide ((level : Int) < 0) = false := decide_eq_false (by omega)
  have t2 : decide ((level : Int) > 44) = false := decide_eq_false (by omega)
  have t3 : decide (44 < (level : Int)) = false := decide_eq_false (by omega)
  have t4 : decide (44 < level) = false := decide_eq_false (by omega)
  obtain ⟨hh, hn, hX⟩ := hand_new (t := t) h
  have hbX : Below w.heap.size w (w.alloc (.cells #[.pointer (some ⟨b, 0, none⟩), .int .i64 t, .int .i64 0] 78 (0, 0))) := (Below.refl _ _).alloc (Nat.le_refl _) _
  have HE := Lib.hid (empty_any w.heap.size b t 0 78 none S F level _ hX wf hh hn ht h44)
  have HB := Lib.hid hbX
  clear h hh hn hX hbX wf
  go_enter Try.func11, Try.ntmps11
  go_wp2_with fail
  refine HE.out.mono ?_
  rintro e w1 ⟨S1, b1, v, F1, rfl, ⟨r, rfl, hr, hres, hden⟩, g1, g2, g3, g4⟩
  have HS : Aside (HState (w.alloc (.cells #[.pointer (some ⟨b, 0, none⟩), .int .i64 t, .int .i64 0] 78 (0, 0))) F w.heap.size b t 78 none S1 b1 F1 w1) := ⟨g1, g2, g3, g4⟩
  have HR := Lib.hid hr
  have HRes := Lib.hid hres
  have HD := Lib.hid hden
  have HDN := Lib.hid (done_any w.heap.size b t b1 78 none r w1 g2)
  clear hr hres hden g1 g2 g3 g4
  go_wp2_with fail
  refine HDN.out.mono ?_
  rintro e w2 ⟨rfl, h2⟩
  obtain ⟨c1, c2, c3⟩ := (HS.out.below h2).close HB.out
  have C1 := Lib.hid c1
  have C2 := Lib.hid c2
  have C3 := Lib.hid c3
  have HR2 : Aside (I64 (if b1 = 0 then r else 0)) := by
    show I64 _
    split
    · exact HR.out
    · unfold I64; omega
  have HD2 : Aside (b1 = 0 → Den S1.L t level (emptyT level) (if b1 = 0 then r else 0)) := fun e => by rw [if_pos e]; exact HD.out e
  have HD3 : Aside (b1 ≠ 0 → (if b1 = 0 then r else 0) = 0) := fun e => by rw [if_neg e]
  obtain ⟨r2, hr2⟩ : ∃ r2, r2 = if b1 = 0 then r else 0 := ⟨_, rfl⟩
  rw [← hr2] at HR2 HD2 HD3
  rw [← hr2]
  clear c1 c2 c3 h2 hr2
  go_wp2_with fail
  go_ret2
  first
  | exact ⟨r2, b1, S1, F1, rfl, HR2.out, HRes.out, HD2.out, HD3.out, C1.out, C2.out, C3.out⟩
  | exact ⟨r2, b1, rfl, S1, F1, HR2.out, HRes.out, HD2.out, HD3.out, C1.out, C2.out, C3.out⟩
end Go.Proofs.Ytdmamecfmfhlmaa
