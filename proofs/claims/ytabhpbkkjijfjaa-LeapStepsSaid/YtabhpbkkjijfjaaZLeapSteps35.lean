/-
  Wrapping and what it comes to; quads' work that keeps notes: plain; Wraps ahead of a leap; leap's leaper: code, fail, join; leap's leaper: kids.
-/
import Derived.Test.YtabhpbkkjijfjaaZLeapSteps33
import Derived.Test.YtabhpbkkjijfjaaZLeapStepsQPeel
import Derived.Test.YtabhpbkkjijfjaaZLeapStepsQWrap
import Derived.Test.YtabhpbkkjijfjaaZLeapSteps24
import Derived.Test.YtabhpbkkjijfjaaZLeapSteps31
namespace Go.Proofs.Ytabhpbkkjijfjaa
set_option maxRecDepth 100000

def isSq : Th → Prop
  | .sq _ => True
  | .note _ _ _ => False
theorem Lacks.wider {U V : Th → Prop} {t : Nat} {S : ArS} (h : Lacks U t S) (hV : ∀ th, U th → V th) : Lacks V t S := by
  obtain ⟨k, th, h1, h2⟩ := h
  exact ⟨k, th, hV th h1, h2⟩
theorem Res.wider {U V : Th → Prop} {t : Nat} {S S' : ArS} {b0 b1 : Int} {k : Nat} (h : Res U t S S' b0 b1 k) (hV : ∀ th, U th → V th) : Res V t S S' b0 b1 k :=
  ⟨h.grew.wider hV, h.wf, h.bud, h.stay, h.errs, h.idle, fun e1 e2 => (h.lacks e1 e2).wider hV, h.full⟩
/-- Work that asks for squares alone keeps notes true. -/
theorem Res.lres {U : Th → Prop} {t : Nat} {S S' : ArS} {b0 b1 : Int} {k : Nat} (h : Res (fun th => U th ∧ isSq th) t S S' b0 b1 k) (ok : ArOk S) (wf : Wf S.L) : LRes U t S S' b0 b1 :=
  ⟨⟨k, h.wider fun _ e => e.1⟩, fun hn => (h.grew.notes (fun _ _ _ e => e.2) ⟨ok.nil0, ok.nil1⟩ wf hn).2.2⟩
/-- A square wrapped, and so many times. -/
def wrapN (n : Nat) : Tree → Tree
  | .node a b c d => wrapT n a b c d
  | .leaf b => .leaf b
def upT : Nat → Nat → Tree → Tree
  | 0, _, T => T
  | k + 1, l, T => wrapN (l + k - 1) (upT k l T)
end Go.Proofs.Ytabhpbkkjijfjaa
namespace Go.Proofs.Ytabhpbkkjijfjaa
set_option maxRecDepth 100000
open Go.RowKit

/-- What Leap and Steps come to. -/
def LGets (U : Th → Prop) (w : World) (F : Nat → Prop) (b t : Nat) (S : ArS) (n : Nat) (T : Tree) (e : Ending) (w' : World) : Prop :=
  ∃ (r er : Int) (S' : ArS) (F' : Nat → Prop), e = .returned (.tuple #[.int .i64 r, .int .i64 er]) ∧ I64 r ∧ LRes U t S S' 0 er ∧ (er = 0 → Den S'.L t n T r) ∧ (er ≠ 0 → r = 0) ∧ IsAr b S' w' F' ∧ (∀ i, F' i → F i ∨ w.heap.size ≤ i) ∧ Keeps F w w'
/-- Behind some wraps. -/
structure WrSt (U : Th → Prop) (w : World) (F : Nat → Prop) (b t : Nat) (S : ArS) (l0 : Nat) (T0 : Tree) (k : Nat) (id : Int) (S1 : ArS) (F1 : Nat → Prop) (W : World) : Prop where
  ar : IsAr b S1 W F1
  res : LRes U t S S1 0 0
  den : Den S1.L t (l0 + k) (upT k l0 T0) id
  far : ∀ i, F1 i → F i ∨ w.heap.size ≤ i
  keep : Keeps F w W
  lt : ∀ i, F i → i < w.heap.size
theorem Keeps.step {w W w' : World} {F F1 : Nat → Prop} (h : Keeps F w W) (k : Keeps F1 W w') (far : ∀ i, F1 i → F i ∨ w.heap.size ≤ i) : Keeps F w w' :=
  h.trans k fun i hi e => by
    rcases far i e with e | e
    · exact e
    · omega
theorem wst_call {U : Th → Prop} {w W : World} {F F1 : Nat → Prop} {b t l0 k : Nat} {S S1 : ArS} {T0 : Tree} {id : Int} (h : WrSt U w F b t S l0 T0 k id S1 F1 W) (h2 : 2 ≤ l0) (h44 : l0 + k + 1 ≤ 44) (ht : t < 64) (hU : ∀ T', Sub T' (upT (k + 1) l0 T0) → U (.sq T')) :
    Calls Try.prog 32 #[.pointer (some ⟨b, 0, none⟩), .int .i64 t, .int .i64 id] W fun e w' => ∃ (r er : Int) (S2 : ArS) (F2 : Nat → Prop), e = .returned (.tuple #[.int .i64 r, .int .i64 er]) ∧ I64 r ∧ LRes U t S S2 0 er ∧ (er = 0 → Den S2.L t (l0 + (k + 1)) (upT (k + 1) l0 T0) r) ∧ IsAr b S2 w' F2 ∧ (∀ i, F2 i → F i ∨ w.heap.size ≤ i) ∧ Keeps F w w' := by
  obtain ⟨n, hn⟩ : ∃ n, l0 + k = n + 1 := ⟨l0 + k - 1, by omega⟩
  have hd := h.den
  rw [hn] at hd
  have hup : upT (k + 1) l0 T0 = wrapN n (upT k l0 T0) := by
    show wrapN (l0 + k - 1) _ = _
    rw [hn]; rfl
  match hT : upT k l0 T0, hd with
  | .leaf _, hd => exact hd.elim
  | .node Ta Tb Tc Td, hd =>
    rw [hT] at hup
    have hup' : upT (k + 1) l0 T0 = wrapT n Ta Tb Tc Td := hup
    refine (wrap_good (U := fun th => U th ∧ isSq th) b t S1 F1 id n Ta Tb Tc Td W h.ar h.res.wf ht hd (by omega) (fun T' hs => ⟨hU T' (by rw [hup']; exact hs), trivial⟩)).mono ?_
    rintro e w' ⟨r, er, S2, F2, rfl, g1, g2, g3, _, g5, g6, g7⟩
    refine ⟨r, er, S2, F2, rfl, g1, h.res.trans (g2.lres h.ar.ok h.res.wf), fun e => ?_, g5, fun i hi => ?_, h.keep.step g7 h.far⟩
    · rw [hup', show l0 + (k + 1) = n + 2 by omega]
      exact g3 e
    · rcases g6 i hi with e | e
      · exact h.far i e
      · exact .inr (Nat.le_trans h.keep.size e)
end Go.Proofs.Ytabhpbkkjijfjaa
namespace Go.Proofs.Ytabhpbkkjijfjaa
set_option maxRecDepth 100000
open Go.RowKit

/-- A leaper in memory: its arena, its tenant, its rule, its first error. -/
def LAt (lb b t : Nat) (B Lv bad : Int) (w : World) : Prop :=
  w.heap[lb]? = some (.cells #[.pointer (some ⟨b, 0, none⟩), .int .i64 t, .int .i64 B, .int .i64 Lv, .int .i64 bad] 79 (0, 0))
section
variable {lb b t : Nat} {B Lv bad : Int} {w w' : World}
theorem LAt.lt (h : LAt lb b t B Lv bad w) : lb < w.heap.size := lt_of_block h
theorem LAt.keep (h : LAt lb b t B Lv bad w) (k : w'.heap[lb]? = w.heap[lb]?) : LAt lb b t B Lv bad w' := k.trans h
theorem LAt.c0 (h : LAt lb b t B Lv bad w) : w.cell? ⟨lb, 0, none⟩ = some (.pointer (some ⟨b, 0, none⟩)) := Joins.cell_of_block h 0
theorem LAt.c1 (h : LAt lb b t B Lv bad w) : w.cell? ⟨lb, 1, none⟩ = some (.int .i64 t) := Joins.cell_of_block h 1
theorem LAt.c2 (h : LAt lb b t B Lv bad w) : w.cell? ⟨lb, 2, none⟩ = some (.int .i64 B) := Joins.cell_of_block h 2
theorem LAt.c3 (h : LAt lb b t B Lv bad w) : w.cell? ⟨lb, 3, none⟩ = some (.int .i64 Lv) := Joins.cell_of_block h 3
theorem LAt.c4 (h : LAt lb b t B Lv bad w) : w.cell? ⟨lb, 4, none⟩ = some (.int .i64 bad) := Joins.cell_of_block h 4
theorem LAt.f (h : LAt lb b t B Lv bad w) (j : Nat) : w.frozen? ⟨lb, j, none⟩ = false := Joins.unfrozen_of_block h j
theorem LAt.set (h : LAt lb b t B Lv bad w) (e : Int) : LAt lb b t B Lv e (w.setCell ⟨lb, 4, none⟩ (.int .i64 e)) := Joins.block_setCell h _
theorem LAt.other (h : LAt lb b t B Lv bad w) {p : Addr} (hp : lb ≠ p.block) (u : Value) : LAt lb b t B Lv bad (w.setCell p u) := h.keep (Below.heap_setCell _ _ _ _ hp)
theorem LAt.alloc (h : LAt lb b t B Lv bad w) (o : Obj) : LAt lb b t B Lv bad (w.alloc o) := h.keep (Below.heap_alloc _ _ _ h.lt)
theorem LAt.drew (h : LAt lb b t B Lv bad w) : LAt lb b t B Lv bad w.drew := h.keep rfl
end
/-- The state of a leaper's work in memory. -/
def LState (w : World) (F : Nat → Prop) (lb b t : Nat) (B Lv : Int) (S' : ArS) (bad' : Int) (F' : Nat → Prop) (w' : World) : Prop :=
  IsAr b S' w' F' ∧ LAt lb b t B Lv bad' w' ∧ (∀ i, F' i → F i ∨ w.heap.size ≤ i) ∧ Keeps (fun i => F i ∨ i = lb) w w'
section
variable {w w1 w2 : World} {F F1 F2 : Nat → Prop} {lb b t : Nat} {B Lv b1 b2 : Int} {S1 S2 : ArS}
theorem LState.refl {S : ArS} {bad : Int} (h : IsAr b S w F) (hh : LAt lb b t B Lv bad w) : LState w F lb b t B Lv S bad F w := ⟨h, hh, fun _ hi => .inl hi, Keeps.refl _ _⟩
theorem LState.out (h : LState w F lb b t B Lv S1 b1 F1 w1) (hn : ¬ F lb) (hlt : lb < w.heap.size) : ¬ F1 lb := fun e => by
  rcases h.2.2.1 lb e with h1 | h1
  · exact hn h1
  · omega
theorem LState.trans (h : LState w F lb b t B Lv S1 b1 F1 w1) (g : LState w1 F1 lb b t B Lv S2 b2 F2 w2) : LState w F lb b t B Lv S2 b2 F2 w2 :=
  ⟨g.1, g.2.1, fun i hi => (g.2.2.1 i hi).elim (fun h1 => h.2.2.1 i h1) (fun h1 => .inr (Nat.le_trans h.2.2.2.size h1)), h.2.2.2.trans g.2.2.2 fun i hi hh => by
    rcases hh with h1 | h1
    · rcases h.2.2.1 i h1 with h2 | h2
      · exact .inl h2
      · omega
    · exact .inr h1⟩
theorem LState.below (h : LState w F lb b t B Lv S1 b1 F1 w1) (g : Below w1.heap.size w1 w2) : LState w F lb b t B Lv S1 b1 F1 w2 :=
  ⟨h.1.below g, h.2.1.keep (g.block lb h.2.1.lt), h.2.2.1, h.2.2.2.below g⟩
/-- A block of one's own is written. -/
theorem LState.mine (h : LState w F lb b t B Lv S1 b1 F1 w1) {p : Addr} (hp : w.heap.size ≤ p.block) (hF : ¬ F1 p.block) (hl : lb ≠ p.block) (u : Value) : LState w F lb b t B Lv S1 b1 F1 (w1.setCell p u) :=
  ⟨h.1.keep (G := fun i => i = p.block) (Keeps.setCell (p := p) (Keeps.refl (fun i => i = p.block) w1) (fun _ => rfl) _) (fun i hi e => hF (by rw [← e]; exact hi)), h.2.1.other hl u, h.2.2.1, h.2.2.2.setCell (fun hq => absurd hq (by omega)) u⟩
end
/-- What a leaper's method comes to. -/
def LMut (w : World) (F : Nat → Prop) (lb b t : Nat) (B Lv : Int) (Post : ArS → Int → Value → Prop) (e : Ending) (w' : World) : Prop :=
  ∃ S' bad' v F', e = .returned v ∧ Post S' bad' v ∧ LState w F lb b t B Lv S' bad' F' w'


set_option maxHeartbeats 1000000 in
theorem lfail_any (lb b t : Nat) (B Lv bad e : Int) (w : World) (hl : LAt lb b t B Lv bad w) :
    Calls Try.prog 53 #[.pointer (some ⟨lb, 0, none⟩), .int .i64 e] w fun en w' => en = .returned (.tuple #[]) ∧ w' = if bad = 0 then w.setCell ⟨lb, 4, none⟩ (.int .i64 e) else w := by
  have c4 := hl.c4
  have f4 := hl.f 4
  by_cases hbad : bad = 0
  · subst hbad
    rw [if_pos rfl]
    clear hl
    go_enter Try.func53, Try.ntmps53
    go_wp2_with fail
    go_end0
    exact ⟨rfl, rfl⟩
  · have g1 : (bad == 0) = false := by simpa using hbad
    rw [if_neg hbad]
    clear hl
    go_enter Try.func53, Try.ntmps53
    go_wp2_with fail
    go_end0
    exact ⟨rfl, rfl⟩
set_option maxHeartbeats 4000000 in
set_option maxRecDepth 100000 in
theorem ljoin_any (lb b t : Nat) (B Lv bad : Int) (S : ArS) (F : Nat → Prop) (q0 q1 q2 q3 : Int) (w : World) (h : IsAr b S w F) (hh : LAt lb b t B Lv bad w) (hn : ¬ F lb) (hq : I64 q0 ∧ I64 q1 ∧ I64 q2 ∧ I64 q3) :
    Calls Try.prog 63 #[.pointer (some ⟨lb, 0, none⟩), .int .i64 q0, .int .i64 q1, .int .i64 q2, .int .i64 q3] w (LMut w F lb b t B Lv fun S' bad' v => ∃ r, v = .int .i64 r ∧ JoinH S t (q0, q1, q2, q3) bad r S' bad') := by
  have c0 := hh.c0
  have c1 := hh.c1
  have c4 := hh.c4
  have hlt := hh.lt
  have HHH := Lib.hid hh
  have HII := Lib.hid h
  by_cases hbad : bad = 0
  · subst hbad
    have HJ := Lib.hid (join_any b S F t (q0, q1, q2, q3) w.drew (h.keep ((Keeps.refl (fun _ => False) w).drew) (fun _ _ h => h)) hq)
    have hcs : w.drew.cell? ⟨lb, 0, none⟩ = some (.pointer (some ⟨b, 0, none⟩)) ∧ w.drew.cell? ⟨lb, 1, none⟩ = some (.int .i64 t) := ⟨c0, c1⟩
    have hkeep : ∀ w', Keeps F w.drew w' → w'.cell? ⟨lb, 0, none⟩ = some (.pointer (some ⟨b, 0, none⟩)) ∧ w'.cell? ⟨lb, 1, none⟩ = some (.int .i64 t) := fun w' hk => by
      have e1 := fun j => hk.cell (p := ⟨lb, j, none⟩) hlt hn
      exact ⟨(e1 0).trans c0, (e1 1).trans c1⟩
    have HK := Lib.hid hkeep
    have HCS := Lib.hid hcs
    clear h hq hh hkeep hcs
    unfold fourV at HJ
    simp only at HJ
    go_enter Try.func63, Try.ntmps63
    go_wp2_with fail
    go_region_held3 (fun w' => w'.cell? ⟨lb, 0, none⟩ = some (.pointer (some ⟨b, 0, none⟩)) ∧ w'.cell? ⟨lb, 1, none⟩ = some (.int .i64 t)) (first | exact HCS.out | exact HK.out _ (by assumption)) ((go_at_call 45; with_reducible refine HJ.out.mono ?_; rintro e w4 ⟨r, er, S', F', rfl, h1, h2, h3, h4⟩))
    have hh4 : LAt lb b t B Lv 0 w4 := HHH.out.keep (h4.block lb HHH.out.lt hn)
    have H1 := Lib.hid h1
    have H2 := Lib.hid h2
    have H3 := Lib.hid h3
    have H4 := Lib.hid h4
    have HH4 := Lib.hid hh4
    have HF := Lib.hid (lfail_any lb b t B Lv 0 er w4 hh4)
    rw [if_pos rfl] at HF
    clear h1 h2 h3 h4 hh4 c0 c1 c4
    go_wp2_with fail
    refine HF.out.mono ?_
    rintro e w5 ⟨rfl, rfl⟩
    go_wp2_with fail
    go_ret
    refine ⟨S', er, .int .i64 r, F', rfl, ⟨r, rfl, fun h => absurd rfl h, fun _ => H1.out⟩, H2.out.keep (G := fun i => i = lb) (Keeps.setCell (p := ⟨lb, 4, none⟩) (Keeps.refl (fun i => i = lb) w4) (fun _ => rfl) _) (fun i hi e => ?_), HH4.out.set er, fun i hi => H3.out i hi, ?_⟩
    · subst e
      rcases H3.out i hi with h | h
      · exact hn h
      · have h' : w.heap.size ≤ i := h
        omega
    · exact Keeps.setCell (p := ⟨lb, 4, none⟩) (((Keeps.refl (fun i => F i ∨ i = lb) w).drew).trans (H4.out.mono (G := fun i => F i ∨ i = lb) fun i _ h => .inl h) (fun i _ h => h)) (fun _ => .inr rfl) _
  · have g1 : (bad == 0) = false := by simpa using hbad
    have g2 : (bad != 0) = true := by simpa using hbad
    clear h hq hh
    go_enter Try.func63, Try.ntmps63
    go_wp2_with fail
    go_ret
    exact ⟨S, bad, .int .i64 0, F, rfl, ⟨0, rfl, fun _ => ⟨rfl, rfl, rfl⟩, fun h => absurd h hbad⟩, LState.refl HII.out HHH.out⟩
end Go.Proofs.Ytabhpbkkjijfjaa
namespace Go.Proofs.Ytabhpbkkjijfjaa
set_option maxRecDepth 100000
open Go.RowKit

/-- What a leaper's reading method comes to: its error alone may have turned. -/
def LRead (w : World) (lb b t : Nat) (B Lv : Int) (v : Value) (bad' : Int) (e : Ending) (w' : World) : Prop :=
  e = .returned v ∧ LAt lb b t B Lv bad' w' ∧ Keeps (fun i => i = lb) w w'
/-- What the region of kids leaves, in its two orders. -/
theorem lkids_end1 {lb b t r : Nat} {B Lv : Int} {ty2 : TypeId} {w w4 : World} {a0 a1 a2 a3 : Value} (hh : LAt lb b t B Lv 0 w4) (hk : Keeps (fun i => i = lb) w w4) (hr : w4.heap[r]? = some (.cells #[a0, a1, a2, a3] ty2 (0, 0))) (v0 v1 v2 v3 : Int) :
    LAt lb b t B Lv 0 (w4.alloc (.cells #[.int .i64 v0, .int .i64 v1, .int .i64 v2, .int .i64 v3] ty2 (0, 0))) ∧ Keeps (fun i => i = lb) w (w4.alloc (.cells #[.int .i64 v0, .int .i64 v1, .int .i64 v2, .int .i64 v3] ty2 (0, 0))) ∧
    (w4.alloc (.cells #[.int .i64 v0, .int .i64 v1, .int .i64 v2, .int .i64 v3] ty2 (0, 0))).heap[r]? = some (.cells #[a0, a1, a2, a3] ty2 (0, 0)) ∧
    (w4.alloc (.cells #[.int .i64 v0, .int .i64 v1, .int .i64 v2, .int .i64 v3] ty2 (0, 0))).heap[w4.heap.size]? = some (.cells #[.int .i64 v0, .int .i64 v1, .int .i64 v2, .int .i64 v3] ty2 (0, 0)) := by
  have hrl := lt_of_block hr
  exact ⟨hh.alloc _, hk.alloc _, (Below.heap_alloc _ _ _ hrl).trans hr, blk_last _ _ rfl⟩
theorem lkids_end2 {lb b t r : Nat} {B Lv : Int} {ty2 : TypeId} {w w4 : World} {X : Nat} {a0 a1 a2 a3 b0 b1 b2 b3 : Value} (hh : LAt lb b t B Lv 0 w4) (hk : Keeps (fun i => i = lb) w w4) (hr : w4.heap[r]? = some (.cells #[a0, a1, a2, a3] ty2 (0, 0))) (hX : w4.heap[X]? = some (.cells #[b0, b1, b2, b3] ty2 (0, 0))) (hrw : lb < r ∧ r < X ∧ w.heap.size ≤ X) (v0 v1 v2 v3 : Int) :
    LAt lb b t B Lv 0 ((((w4.setCell ⟨X, 0, none⟩ (.int .i64 v0)).setCell ⟨X, 1, none⟩ (.int .i64 v1)).setCell ⟨X, 2, none⟩ (.int .i64 v2)).setCell ⟨X, 3, none⟩ (.int .i64 v3)) ∧
    Keeps (fun i => i = lb) w ((((w4.setCell ⟨X, 0, none⟩ (.int .i64 v0)).setCell ⟨X, 1, none⟩ (.int .i64 v1)).setCell ⟨X, 2, none⟩ (.int .i64 v2)).setCell ⟨X, 3, none⟩ (.int .i64 v3)) ∧
    ((((w4.setCell ⟨X, 0, none⟩ (.int .i64 v0)).setCell ⟨X, 1, none⟩ (.int .i64 v1)).setCell ⟨X, 2, none⟩ (.int .i64 v2)).setCell ⟨X, 3, none⟩ (.int .i64 v3)).heap[r]? = some (.cells #[a0, a1, a2, a3] ty2 (0, 0)) ∧
    ((((w4.setCell ⟨X, 0, none⟩ (.int .i64 v0)).setCell ⟨X, 1, none⟩ (.int .i64 v1)).setCell ⟨X, 2, none⟩ (.int .i64 v2)).setCell ⟨X, 3, none⟩ (.int .i64 v3)).heap[X]? = some (.cells #[.int .i64 v0, .int .i64 v1, .int .i64 v2, .int .i64 v3] ty2 (0, 0)) := by
  obtain ⟨h1, h2, h3⟩ := hrw
  have no : ∀ (W : World) (j : Nat) (u : Value), (W.setCell ⟨X, j, none⟩ u).heap[r]? = W.heap[r]? := fun W j u => Below.heap_setCell _ _ _ _ (by show r ≠ X; omega)
  refine ⟨LAt.other (LAt.other (LAt.other (LAt.other hh (by show lb ≠ X; omega) _) (by show lb ≠ X; omega) _) (by show lb ≠ X; omega) _) (by show lb ≠ X; omega) _,
    Keeps.setCell (Keeps.setCell (Keeps.setCell (Keeps.setCell hk (fun hp => absurd (show X < w.heap.size from hp) (by omega)) _) (fun hp => absurd (show X < w.heap.size from hp) (by omega)) _) (fun hp => absurd (show X < w.heap.size from hp) (by omega)) _) (fun hp => absurd (show X < w.heap.size from hp) (by omega)) _, ?_, set4 hX⟩
  rw [no, no, no, no]; exact hr
set_option maxHeartbeats 4000000 in
set_option maxRecDepth 100000 in
theorem lkids_any (lb b t : Nat) (B Lv bad : Int) (S : ArS) (F : Nat → Prop) (id : Int) (w : World) (h : IsAr b S w F) (hh : LAt lb b t B Lv bad w) :
    Calls Try.prog 61 #[.pointer (some ⟨lb, 0, none⟩), .int .i64 id] w (LRead w lb b t B Lv (fourV (if bad = 0 then (kidsA S t id).1 else (0, 0, 0, 0))) (if bad = 0 then (kidsA S t id).2 else bad)) := by
  have hbX : Below w.heap.size w (w.alloc (.cells #[.int .i64 0, .int .i64 0, .int .i64 0, .int .i64 0] 72 (0, 0))) := (Below.refl _ _).alloc (Nat.le_refl _) _
  have hX := h.below hbX
  obtain ⟨X, hXe⟩ : ∃ X, X = w.alloc (.cells #[.int .i64 0, .int .i64 0, .int .i64 0, .int .i64 0] 72 (0, 0)) := ⟨_, rfl⟩
  rw [← hXe] at hbX hX
  have hbx0 : X.heap[w.heap.size]? = some (.cells #[.int .i64 0, .int .i64 0, .int .i64 0, .int .i64 0] 72 (0, 0)) := by rw [hXe]; exact blk_last w _ rfl
  have hhX : LAt lb b t B Lv bad X := hh.keep (hbX.block lb hh.lt)
  have c0 := hhX.c0
  have c1 := hhX.c1
  have c4 := hhX.c4
  have hlt := hh.lt
  have HXE := Lib.hid hXe
  have HBX := Lib.hid hbX
  have HHX := Lib.hid hhX
  have HBR := Lib.hid hbx0
  by_cases hbad : bad = 0
  · subst hbad
    rw [if_pos rfl, if_pos rfl]
    obtain ⟨v, hv⟩ : ∃ v, v = (kidsA S t id).1 := ⟨_, rfl⟩
    obtain ⟨er, her⟩ : ∃ v, v = (kidsA S t id).2 := ⟨_, rfl⟩
    have hl : ∀ W, Below X.heap.size X W → Calls Try.prog 44 #[.pointer (some ⟨b, 0, none⟩), .int .i64 t, .int .i64 id] W fun e w' => e = .returned (.tuple #[fourV (kidsA S t id).1, .int .i64 (kidsA S t id).2]) ∧ Below X.heap.size X w' ∧ Below W.heap.size W w' := fun W hW =>
      (kids_any b S F t id W (hX.below hW)).mono fun e w' ⟨h1, h2⟩ => ⟨h1, hW.trans (h2.mono hW.size), h2⟩
    rw [← hv, ← her] at hl
    rw [← hv, ← her]
    have HL := Lib.hid hl
    have hkeep : ∀ w', Below X.heap.size X w' → w'.cell? ⟨lb, 0, none⟩ = some (.pointer (some ⟨b, 0, none⟩)) ∧ w'.cell? ⟨lb, 1, none⟩ = some (.int .i64 t) := fun w' hk =>
      ⟨(hk.cell (p := ⟨lb, 0, none⟩) hhX.lt).trans c0, (hk.cell (p := ⟨lb, 1, none⟩) hhX.lt).trans c1⟩
    have HK := Lib.hid hkeep
    have hnew : ∀ w', Below ((X.alloc (.cells #[.int .i64 0, .int .i64 0, .int .i64 0, .int .i64 0] 72 (0, 0))).drew).heap.size ((X.alloc (.cells #[.int .i64 0, .int .i64 0, .int .i64 0, .int .i64 0] 72 (0, 0))).drew) w' →
        w'.cell? ⟨X.heap.size, 0, none⟩ = some (.int .i64 0) ∧ w'.cell? ⟨X.heap.size, 1, none⟩ = some (.int .i64 0) ∧ w'.cell? ⟨X.heap.size, 2, none⟩ = some (.int .i64 0) ∧ w'.cell? ⟨X.heap.size, 3, none⟩ = some (.int .i64 0) ∧ (∀ j, w'.frozen? ⟨X.heap.size, j, none⟩ = false) ∧ RowKit.Hid (w'.heap[X.heap.size]? = some (.cells #[.int .i64 0, .int .i64 0, .int .i64 0, .int .i64 0] 72 (0, 0))) := fun w' hk => by
      have hb : w'.heap[X.heap.size]? = some (.cells #[.int .i64 0, .int .i64 0, .int .i64 0, .int .i64 0] 72 (0, 0)) := (hk.block X.heap.size (by show X.heap.size < (X.alloc _).heap.size; simp)).trans (blk_last X _ rfl)
      exact ⟨Joins.cell_of_block hb 0, Joins.cell_of_block hb 1, Joins.cell_of_block hb 2, Joins.cell_of_block hb 3, fun j => Joins.unfrozen_of_block hb j, Lib.hid hb⟩
    have HNW := Lib.hid hnew
    have HXX := Lib.hid (show Below X.heap.size X X.drew from (Below.refl _ X).drew)
    have hXd : Below X.heap.size X X.drew := (Below.refl _ X).drew
    clear hl hkeep hnew hXe h hX hbx0 hbX hh hhX hv her
    obtain ⟨v0, v1, v2, v3⟩ := v
    unfold fourV at HL ⊢
    simp only at HL ⊢
    go_enter Try.func61, Try.ntmps61
    go_upto_region 1 with fail
    rw [← HXE.out]
    go_upto_region 3 with fail
    go_region_held3 (fun w' => w'.cell? ⟨lb, 0, none⟩ = some (.pointer (some ⟨b, 0, none⟩)) ∧ w'.cell? ⟨lb, 1, none⟩ = some (.int .i64 t)) (first | exact HK.out _ HXX.out | exact HK.out _ (by assumption) | exact HK.out _ (((Below.refl _ X).alloc (Nat.le_refl _) _).drew) | (refine HK.out _ ?_; repeat (first | assumption | refine Below.setCell ?_ (by first | exact Nat.le_refl _ | (have := Below.size (show Below X.heap.size X _ by assumption); simp; omega)) _ | refine Below.alloc ?_ (Below.size (show Below X.heap.size X _ by assumption)) _))) ((go_at_call 44; first | (with_reducible refine (HL.out _ (by assumption)).mono ?_; rintro e w4 ⟨rfl, h1, h2⟩) | (with_reducible refine (HL.out _ (((Below.refl _ X).alloc (Nat.le_refl _) _).drew)).mono ?_; rintro e w4 ⟨rfl, h1, h2⟩; obtain ⟨k0, k1, k2, k3, kf, KB⟩ := HNW.out _ h2)))
    all_goals
      have hh4 : LAt lb b t B Lv 0 w4 := HHX.out.keep (h1.block lb HHX.out.lt)
      have hbr : w4.heap[w.heap.size]? = some (.cells #[.int .i64 0, .int .i64 0, .int .i64 0, .int .i64 0] 72 (0, 0)) := (h1.block _ (lt_of_block HBR.out)).trans HBR.out
      have hwX : w.heap.size < X.heap.size := lt_of_block HBR.out
      have hXw : X.heap.size ≤ w4.heap.size := h1.size
      have HH4 := Lib.hid hh4
      have HB4 := Lib.hid h1
      have HB5 := Lib.hid h2
      have HBR4 := Lib.hid hbr
      clear h1 h2 hh4 hbr c0 c1 c4
      go_upto_region 4 with fail
      refine wp_named ?_
      intro W5 hW5
      have hk4 : Keeps (fun i => i = lb) w w4 := (Keeps.of_below HBX.out).below HB4.out
    · have h5 := lkids_end1 (w := w) HH4.out hk4 HBR4.out v0 v1 v2 v3
      rw [← hW5] at h5
      have H5 := Lib.hid h5
      have HF := Lib.hid (lfail_any lb b t B Lv 0 er W5 h5.1)
      rw [if_pos rfl] at HF
      clear h5 hW5 hk4
      go_wp2_with fail
      refine HF.out.mono ?_
      rintro e W6 ⟨rfl, hW6⟩
      have hh6 : LAt lb b t B Lv er W6 := by rw [hW6]; exact H5.out.1.set er
      have hk6 : Keeps (fun i => i = lb) w W6 := by rw [hW6]; exact H5.out.2.1.setCell (fun _ => rfl) _
      have hr6 : W6.heap[w.heap.size]? = some (.cells #[.int .i64 0, .int .i64 0, .int .i64 0, .int .i64 0] 72 (0, 0)) := by rw [hW6, Below.heap_setCell _ _ _ _ (by show w.heap.size ≠ lb; omega)]; exact H5.out.2.2.1
      have hg : W6.heap[w4.heap.size]? = some (.cells #[.int .i64 v0, .int .i64 v1, .int .i64 v2, .int .i64 v3] 72 (0, 0)) := by rw [hW6, Below.heap_setCell _ _ _ _ (by show w4.heap.size ≠ lb; omega)]; exact H5.out.2.2.2
      have r0 := Joins.cell_of_block hr6 0
      have r1 := Joins.cell_of_block hr6 1
      have r2 := Joins.cell_of_block hr6 2
      have r3 := Joins.cell_of_block hr6 3
      have r4 := fun j => Joins.unfrozen_of_block hr6 j
      have g0 := Joins.cell_of_block hg 0
      have g1 := Joins.cell_of_block hg 1
      have g2 := Joins.cell_of_block hg 2
      have g3 := Joins.cell_of_block hg 3
      simp at r0 r1 r2 r3 g0 g1 g2 g3
      have HH6 := Lib.hid hh6
      have HK6 := Lib.hid hk6
      have HR6 := Lib.hid hr6
      clear hh6 hk6 hr6 hg hW6
      go_wp2_with fail
      refine bodyPost_ret (v := .agg #[.int .i64 v0, .int .i64 v1, .int .i64 v2, .int .i64 v3]) (results_cell_row (g := w.heap.size) (t := 72) (cs := #[.int .i64 v0, .int .i64 v1, .int .i64 v2, .int .i64 v3]) (fr := (0, 0)) (d := _) rfl _ _ rfl (set4 HR6.out) rfl rfl rfl) rfl ⟨rfl, ?_, ?_⟩
      · exact LAt.other (LAt.other (LAt.other (LAt.other HH6.out (by simp only; omega) _) (by simp only; omega) _) (by simp only; omega) _) (by simp only; omega) _
      · exact Keeps.setCell (Keeps.setCell (Keeps.setCell (Keeps.setCell HK6.out (fun hp => by exfalso; simp only at hp; omega) _) (fun hp => by exfalso; simp only at hp; omega) _) (fun hp => by exfalso; simp only at hp; omega) _) (fun hp => by exfalso; simp only at hp; omega) _
    · have h5 := lkids_end2 (w := w) HH4.out hk4 HBR4.out KB.out ⟨hlt, hwX, by omega⟩ v0 v1 v2 v3
      rw [← hW5] at h5
      have H5 := Lib.hid h5
      have HF := Lib.hid (lfail_any lb b t B Lv 0 er W5 h5.1)
      rw [if_pos rfl] at HF
      clear h5 hW5 hk4
      go_wp2_with fail
      refine HF.out.mono ?_
      rintro e W6 ⟨rfl, hW6⟩
      have hh6 : LAt lb b t B Lv er W6 := by rw [hW6]; exact H5.out.1.set er
      have hk6 : Keeps (fun i => i = lb) w W6 := by rw [hW6]; exact H5.out.2.1.setCell (fun _ => rfl) _
      have hr6 : W6.heap[w.heap.size]? = some (.cells #[.int .i64 0, .int .i64 0, .int .i64 0, .int .i64 0] 72 (0, 0)) := by rw [hW6, Below.heap_setCell _ _ _ _ (by show w.heap.size ≠ lb; omega)]; exact H5.out.2.2.1
      have hg : W6.heap[X.heap.size]? = some (.cells #[.int .i64 v0, .int .i64 v1, .int .i64 v2, .int .i64 v3] 72 (0, 0)) := by rw [hW6, Below.heap_setCell _ _ _ _ (by show X.heap.size ≠ lb; omega)]; exact H5.out.2.2.2
      have r0 := Joins.cell_of_block hr6 0
      have r1 := Joins.cell_of_block hr6 1
      have r2 := Joins.cell_of_block hr6 2
      have r3 := Joins.cell_of_block hr6 3
      have r4 := fun j => Joins.unfrozen_of_block hr6 j
      have g0 := Joins.cell_of_block hg 0
      have g1 := Joins.cell_of_block hg 1
      have g2 := Joins.cell_of_block hg 2
      have g3 := Joins.cell_of_block hg 3
      simp at r0 r1 r2 r3 g0 g1 g2 g3
      have HH6 := Lib.hid hh6
      have HK6 := Lib.hid hk6
      have HR6 := Lib.hid hr6
      clear hh6 hk6 hr6 hg hW6
      go_wp2_with fail
      refine bodyPost_ret (v := .agg #[.int .i64 v0, .int .i64 v1, .int .i64 v2, .int .i64 v3]) (results_cell_row (g := w.heap.size) (t := 72) (cs := #[.int .i64 v0, .int .i64 v1, .int .i64 v2, .int .i64 v3]) (fr := (0, 0)) (d := _) rfl _ _ rfl (set4 HR6.out) rfl rfl rfl) rfl ⟨rfl, ?_, ?_⟩
      · exact LAt.other (LAt.other (LAt.other (LAt.other HH6.out (by simp only; omega) _) (by simp only; omega) _) (by simp only; omega) _) (by simp only; omega) _
      · exact Keeps.setCell (Keeps.setCell (Keeps.setCell (Keeps.setCell HK6.out (fun hp => by exfalso; simp only at hp; omega) _) (fun hp => by exfalso; simp only at hp; omega) _) (fun hp => by exfalso; simp only at hp; omega) _) (fun hp => by exfalso; simp only at hp; omega) _
  · have g1 : (bad == 0) = false := by simpa using hbad
    have g2 : (bad != 0) = true := by simpa using hbad
    rw [if_neg hbad, if_neg hbad]
    have r0 := Joins.cell_of_block hbx0 0
    have r1 := Joins.cell_of_block hbx0 1
    have r2 := Joins.cell_of_block hbx0 2
    have r3 := Joins.cell_of_block hbx0 3
    have r4 := fun j => Joins.unfrozen_of_block hbx0 j
    simp at r0 r1 r2 r3
    clear hXe h hX hbx0 hbX hh hhX
    unfold fourV
    go_enter Try.func61, Try.ntmps61
    go_upto_region 1 with fail
    rw [← HXE.out]
    go_wp2_with fail
    refine bodyPost_ret (v := .agg #[.int .i64 0, .int .i64 0, .int .i64 0, .int .i64 0]) (results_cell_row (g := w.heap.size) (t := 72) (cs := #[.int .i64 0, .int .i64 0, .int .i64 0, .int .i64 0]) (fr := (0, 0)) (d := _) rfl _ _ rfl (set4 HBR.out) rfl rfl rfl) rfl ⟨rfl, ?_, ?_⟩
    · repeat (with_reducible refine LAt.other ?_ (by simp only; omega) _)
      with_reducible exact HHX.out
    · have hk4 : Keeps (fun i => i = lb) w X := (Keeps.of_below HBX.out)
      repeat (with_reducible refine Keeps.setCell ?_ (fun hp => by first | rfl | (exfalso; simp only at hp; omega)) _)
      with_reducible exact hk4
end Go.Proofs.Ytabhpbkkjijfjaa
