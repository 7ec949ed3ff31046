/-
  quad's empty squares; quad.Empty.
-/
import Derived.Test.YtdmamecfmfhlmaaZQuadPutsQHand
import Derived.Test.YtdmamecfmfhlmaaZQuadPutsQWf
namespace Go.Proofs.Ytdmamecfmfhlmaa
set_option maxRecDepth 100000
open Go.RowKit

/-- What a hand's piece of work comes to: a number, room for k more joins wanted; the number is a square of a level, this tree. -/
def Made (t : Nat) (S : ArS) (bad : Int) (k n : Nat) (T : Tree) (S' : ArS) (bad' : Int) (v : Value) : Prop :=
  ∃ r, v = .int .i64 r ∧ I64 r ∧ Res t S S' bad bad' k ∧ (bad' = 0 → Den S'.L t n T r)
theorem hjoin_tree (hb b t : Nat) (bad : Int) (ty : TypeId) (rest : Option Value) (S : ArS) (F : Nat → Prop) (q : Four) (n : Nat) (Ta Tb Tc Td : Tree) (w : World) (h : IsAr b S w F) (wf : Wf S.L) (hh : HandAt hb b t bad ty rest w) (hn : ¬ F hb) (hq : I64 q.1 ∧ I64 q.2.1 ∧ I64 q.2.2.1 ∧ I64 q.2.2.2)
    (ht : t < 64) (h44 : n < 44) (hd : bad = 0 → Den S.L t n Ta q.1 ∧ Den S.L t n Tb q.2.1 ∧ Den S.L t n Tc q.2.2.1 ∧ Den S.L t n Td q.2.2.2) :
    Calls Try.prog 54 #[.pointer (some ⟨hb, 0, none⟩), fourV q] w (HMut w F hb b t ty rest fun S' bad' v => Made t S bad 1 (n + 1) (.node Ta Tb Tc Td) S' bad' v ∧ (Ta = emptyT n → Tb = emptyT n → Tc = emptyT n → Td = emptyT n → Made t S bad 0 (n + 1) (.node Ta Tb Tc Td) S' bad' v)) := by
  refine (hjoin_any hb b t bad ty rest S F q w h hh hn hq).mono ?_
  rintro e w' ⟨S', bad', v, F', rfl, ⟨r, rfl, h1, h2⟩, h3, h4, h5, h6⟩
  refine ⟨S', bad', _, F', rfl, ?_, h3, h4, h5, h6⟩
  by_cases hb0 : bad = 0
  · obtain ⟨da, db, dc, dd⟩ := hd hb0
    obtain ⟨j1, j2, j3, j4⟩ := join_tree h.ok wf ht h44 (h2 hb0) da db dc dd
    have hr : I64 r := by
      by_cases hb1 : bad' = 0
      · exact (j2 hb1).i64 h3.ok
      · rw [j3 hb1]; unfold I64; omega
    rw [hb0]
    exact ⟨⟨r, rfl, hr, j1, j2⟩, fun a1 a2 a3 a4 => ⟨r, rfl, hr, j4 a1 a2 a3 a4, j2⟩⟩
  · obtain ⟨e1, e2, e3⟩ := h1 hb0
    subst e1 e2 e3
    have hr : I64 0 := by unfold I64; omega
    exact ⟨⟨0, rfl, hr, (Res.refl wf).more (Nat.zero_le _), fun h => absurd h hb0⟩, fun _ _ _ _ => ⟨0, rfl, hr, Res.refl wf, fun h => absurd h hb0⟩⟩
/-- The state of a hand's work in memory. -/
def HState (w : World) (F : Nat → Prop) (hb b t : Nat) (ty : TypeId) (rest : Option Value) (S' : ArS) (bad' : Int) (F' : Nat → Prop) (w' : World) : Prop :=
  IsAr b S' w' F' ∧ HandAt hb b t bad' ty rest w' ∧ (∀ i, F' i → F i ∨ w.heap.size ≤ i) ∧ Keeps (fun i => F i ∨ i = hb) w w'
theorem HState.refl {w : World} {F : Nat → Prop} {hb b t : Nat} {ty : TypeId} {rest : Option Value} {S : ArS} {bad : Int} (h : IsAr b S w F) (hh : HandAt hb b t bad ty rest w) : HState w F hb b t ty rest S bad F w := ⟨h, hh, fun _ hi => .inl hi, Keeps.refl _ _⟩
theorem HState.out {w w' : World} {F F' : Nat → Prop} {hb b t : Nat} {ty : TypeId} {rest : Option Value} {S' : ArS} {bad' : Int} (h : HState w F hb b t ty rest S' bad' F' w') (hn : ¬ F hb) (hlt : hb < w.heap.size) : ¬ F' hb := fun e => by
  rcases h.2.2.1 hb e with h1 | h1
  · exact hn h1
  · omega
theorem HState.trans {w w1 w2 : World} {F F1 F2 : Nat → Prop} {hb b t : Nat} {ty : TypeId} {rest : Option Value} {S1 S2 : ArS} {b1 b2 : Int} (h : HState w F hb b t ty rest S1 b1 F1 w1) (g : HState w1 F1 hb b t ty rest S2 b2 F2 w2) : HState w F hb b t ty rest S2 b2 F2 w2 :=
  ⟨g.1, g.2.1, fun i hi => (g.2.2.1 i hi).elim (fun h1 => h.2.2.1 i h1) (fun h1 => .inr (Nat.le_trans h.2.2.2.size h1)), h.2.2.2.trans g.2.2.2 fun i hi hh => by
    rcases hh with h1 | h1
    · rcases h.2.2.1 i h1 with h2 | h2
      · exact .inl h2
      · omega
    · exact .inr h1⟩
theorem HState.below {w w1 w2 : World} {F F1 : Nat → Prop} {hb b t : Nat} {ty : TypeId} {rest : Option Value} {S1 : ArS} {b1 : Int} (h : HState w F hb b t ty rest S1 b1 F1 w1) (g : Below w1.heap.size w1 w2) : HState w F hb b t ty rest S1 b1 F1 w2 :=
  ⟨h.1.below g, h.2.1.keep (g.block hb h.2.1.lt), h.2.2.1, h.2.2.2.below g⟩
set_option maxHeartbeats 2000000 in
set_option maxRecDepth 100000 in
theorem empty_any (hb b t : Nat) (bad : Int) (ty : TypeId) (rest : Option Value) (S : ArS) (F : Nat → Prop) (level : Nat) (w : World) (h : IsAr b S w F) (wf : Wf S.L) (hh : HandAt hb b t bad ty rest w) (hn : ¬ F hb) (ht : t < 64) (h44 : level ≤ 44) :
    Calls Try.prog 34 #[.pointer (some ⟨hb, 0, none⟩), .int .i64 level] w (HMut w F hb b t ty rest fun S' bad' v => Made t S bad 0 level (emptyT level) S' bad' v) := by
  have hlt := hh.lt
  have H0 : Aside (HState w F hb b t ty rest S bad F w) := HState.refl h hh
  have R0 := Lib.hid (show Res t S S bad bad 0 from Res.refl wf)
  clear h hh wf
  go_enter Try.func34, Try.ntmps34
  go_wp2_with fail
  go_loopw [5, 7] (fun iv kv ws => ∃ (k : Nat) (id : Int) (S1 : ArS) (b1 : Int) (F1 : Nat → Prop), iv = .int .i64 id ∧ kv = .int .i64 k ∧ k ≤ level ∧ I64 id ∧ Aside (HState w F hb b t ty rest S1 b1 F1 ws) ∧ Aside (Res t S S1 bad b1 0) ∧ Aside (b1 = 0 → Den S1.L t k (emptyT k) id)) (fun _ kv _ => level - (intOf kv).toNat)
  case atStart => exact ⟨0, 0, S, bad, F, rfl, rfl, Nat.zero_le _, by unfold I64; omega, H0, R0.out, fun _ => rfl⟩
  case round =>
    obtain ⟨k, id, S1, b1, F1, rfl, rfl, hk, h64, HS, HR, HD⟩ := hrel
    have HI := Lib.hid h64
    clear h64
    by_cases hkl : k < level
    · have t1 : decide ((k : Int) < (level : Int)) = true := decide_eq_true (by omega)
      have t2 : decide (k < level) = true := decide_eq_true hkl
      have HJ := Lib.hid (hjoin_tree hb b t b1 ty rest S1 F1 (id, id, id, id) k (emptyT k) (emptyT k) (emptyT k) (emptyT k) wr HS.out.1 HR.out.wf HS.out.2.1 (HS.out.out hn hlt) ⟨HI.out, HI.out, HI.out, HI.out⟩ ht (by omega) (fun hb0 => ⟨HD.out hb0, HD.out hb0, HD.out hb0, HD.out hb0⟩))
      unfold fourV at HJ
      go_wp2_with fail
      refine HJ.out.mono ?_
      rintro e w1 ⟨S2, b2, v, F2, rfl, ⟨_, hm⟩, g1, g2, g3, g4⟩
      obtain ⟨r, rfl, hr, hres, hden⟩ := hm (by trivial) (by trivial) (by trivial) (by trivial)
      have HS2 : Aside (HState w F hb b t ty rest S2 b2 F2 w1) := HS.out.trans ⟨g1, g2, g3, g4⟩
      have HR2 : Aside (Res t S S2 bad b2 0) := HR.out.trans hres
      have HD2 : Aside (b2 = 0 → Den S2.L t (k + 1) (emptyT (k + 1)) r) := hden
      have HI2 := Lib.hid hr
      clear g1 g2 g3 g4 hres hden hm hr
      go_wp2_with fail
      refine ⟨⟨k + 1, r, S2, b2, F2, rfl, by go_num, hkl, HI2.out, HS2, HR2, HD2⟩, by simp [intOf]; omega⟩
    · have t1 : decide ((k : Int) < (level : Int)) = false := decide_eq_false (by omega)
      have t2 : decide (k < level) = false := decide_eq_false hkl
      have hkE : k = level := by omega
      have HE := Lib.hid hkE
      clear hkE
      go_wp2_with fail
      go_ret
      exact ⟨S1, b1, _, F1, rfl, ⟨id, rfl, HI.out, HR.out, by rw [← HE.out]; exact HD.out⟩, HS.out.1, HS.out.2.1, HS.out.2.2.1, HS.out.2.2.2⟩
end Go.Proofs.Ytdmamecfmfhlmaa
namespace Go.Proofs.Ytdmamecfmfhlmaa
set_option maxRecDepth 100000
open Go.RowKit

/-- What a function of quad's comes to that makes a square: its number, or 0 and an error. -/
def Gets (w : World) (F : Nat → Prop) (b t : Nat) (S : ArS) (k n : Nat) (T : Tree) (e : Ending) (w' : World) : Prop :=
  ∃ (r er : Int) (S' : ArS) (F' : Nat → Prop), e = .returned (.tuple #[.int .i64 r, .int .i64 er]) ∧ I64 r ∧ Res t S S' 0 er k ∧ (er = 0 → Den S'.L t n T r) ∧ (er ≠ 0 → r = 0) ∧ IsAr b S' w' F' ∧ (∀ i, F' i → F i ∨ w.heap.size ≤ i) ∧ Keeps F w w'
/-- The hand that such a function makes. -/
theorem hand_new {b t : Nat} {F : Nat → Prop} {S : ArS} {w : World} (h : IsAr b S w F) : HandAt w.heap.size b t 0 78 none (w.alloc (.cells #[.pointer (some ⟨b, 0, none⟩), .int .i64 t, .int .i64 0] 78 (0, 0))) ∧ ¬ F w.heap.size ∧ IsAr b S (w.alloc (.cells #[.pointer (some ⟨b, 0, none⟩), .int .i64 t, .int .i64 0] 78 (0, 0))) F :=
  ⟨⟨_, blk_last w _ rfl, rfl, rfl, rfl, rfl⟩, fun e => by have := h.lt _ e; omega, h.below ((Below.refl _ _).alloc (Nat.le_refl _) _)⟩
/-- The hand forgotten. -/
theorem HState.close {w X w1 : World} {F F1 : Nat → Prop} {b t : Nat} {ty : TypeId} {rest : Option Value} {S1 : ArS} {b1 : Int} (h : HState X F w.heap.size b t ty rest S1 b1 F1 w1) (hX : Below w.heap.size w X) : IsAr b S1 w1 F1 ∧ (∀ i, F1 i → F i ∨ w.heap.size ≤ i) ∧ Keeps F w w1 :=
  ⟨h.1, fun i hi => (h.2.2.1 i hi).imp id (fun h1 => Nat.le_trans hX.size h1), (Keeps.of_below hX).trans h.2.2.2 fun i hi hh => by
    rcases hh with h1 | h1
    · exact h1
    · omega⟩
set_option maxHeartbeats 2000000 in
theorem qempty_any (b t : Nat) (S : ArS) (F : Nat → Prop) (level : Nat) (w : World) (h : IsAr b S w F) (wf : Wf S.L) (ht : t < 64) (h44 : level ≤ 44) :
    Calls Try.prog 11 #[.pointer (some ⟨b, 0, none⟩), .int .i64 t, .int .i64 level] w (Gets w F b t S 0 level (emptyT level)) := by
  have t1 : decide ((level : Int) < 0) = false := decide_eq_false (by omega)
  have t2 : decide ((level : Int) > 44) = false := decide_eq_false (by omega)
  have t3 : decide (44 < (level : Int)) = false := decide_eq_false (by omega)
  have t4 : decide (44 < level) = false := decide_eq_false (by omega)
  obtain ⟨hh, hn, hX⟩ := hand_new (t := t) h
  have hbX : Below w.heap.size w (w.alloc (.cells #[.pointer (some ⟨b, 0, none⟩), .int .i64 t, .int .i64 0] 78 (0, 0))) := (Below.refl _ _).alloc (Nat.le_refl _) _
  have HE := Lib.hid (empty_any w.heap.size b t 0 78 none S F level _ hX wf hh hn ht h44)
  have HB := Lib.hid hbX
  clear h hh hn hX hbX wf
  go_enter Try.func11, Try.ntmps11
  go_wp2_with fail
  refine HE.out.mono ?_
  rintro e w1 ⟨S1, b1, v, F1, rfl, ⟨r, rfl, hr, hres, hden⟩, g1, g2, g3, g4⟩
  have HS : Aside (HState (w.alloc (.cells #[.pointer (some ⟨b, 0, none⟩), .int .i64 t, .int .i64 0] 78 (0, 0))) F w.heap.size b t 78 none S1 b1 F1 w1) := ⟨g1, g2, g3, g4⟩
  have HR := Lib.hid hr
  have HRes := Lib.hid hres
  have HD := Lib.hid hden
  have HDN := Lib.hid (done_any w.heap.size b t b1 78 none r w1 g2)
  clear hr hres hden g1 g2 g3 g4
  go_wp2_with fail
  refine HDN.out.mono ?_
  rintro e w2 ⟨rfl, h2⟩
  obtain ⟨c1, c2, c3⟩ := (HS.out.below h2).close HB.out
  have C1 := Lib.hid c1
  have C2 := Lib.hid c2
  have C3 := Lib.hid c3
  have HR2 : Aside (I64 (if b1 = 0 then r else 0)) := by
    show I64 _
    split
    · exact HR.out
    · unfold I64; omega
  have HD2 : Aside (b1 = 0 → Den S1.L t level (emptyT level) (if b1 = 0 then r else 0)) := fun e => by rw [if_pos e]; exact HD.out e
  have HD3 : Aside (b1 ≠ 0 → (if b1 = 0 then r else 0) = 0) := fun e => by rw [if_neg e]
  obtain ⟨r2, hr2⟩ : ∃ r2, r2 = if b1 = 0 then r else 0 := ⟨_, rfl⟩
  rw [← hr2] at HR2 HD2 HD3
  rw [← hr2]
  clear c1 c2 c3 h2 hr2
  go_wp2_with fail
  go_ret2
  first
  | exact ⟨r2, b1, S1, F1, rfl, HR2.out, HRes.out, HD2.out, HD3.out, C1.out, C2.out, C3.out⟩
  | exact ⟨r2, b1, rfl, S1, F1, HR2.out, HRes.out, HD2.out, HD3.out, C1.out, C2.out, C3.out⟩
end Go.Proofs.Ytdmamecfmfhlmaa
