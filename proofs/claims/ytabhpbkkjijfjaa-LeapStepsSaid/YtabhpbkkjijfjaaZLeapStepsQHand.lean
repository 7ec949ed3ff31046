/-
  quad's hand: join, kids, level.
-/
import Derived.Test.YtabhpbkkjijfjaaZLeapSteps20
namespace Go.Proofs.Ytabhpbkkjijfjaa
set_option maxRecDepth 100000
open Go.RowKit

/-- A hand (or a walker, whose first field is one) in memory. -/
def HandAt (hb b : Nat) (t : Nat) (bad : Int) (ty : TypeId) (rest : Option Value) (w : World) : Prop :=
  ∃ arr : Array Value, w.heap[hb]? = some (.cells arr ty (0, 0)) ∧ arr[0]? = some (.pointer (some ⟨b, 0, none⟩)) ∧ arr[1]? = some (.int .i64 t) ∧ arr[2]? = some (.int .i64 bad) ∧ arr[3]? = rest
section
variable {hb b t : Nat} {bad : Int} {ty : TypeId} {rest : Option Value} {w w' : World} {F G : Nat → Prop} {S : ArS}
theorem HandAt.lt (h : HandAt hb b t bad ty rest w) : hb < w.heap.size := by obtain ⟨arr, h, _⟩ := h; exact lt_of_block h
theorem HandAt.keep (h : HandAt hb b t bad ty rest w) (k : w'.heap[hb]? = w.heap[hb]?) : HandAt hb b t bad ty rest w' := by
  obtain ⟨arr, h1, h2⟩ := h
  exact ⟨arr, k.trans h1, h2⟩
theorem HandAt.c0 (h : HandAt hb b t bad ty rest w) : w.cell? ⟨hb, 0, none⟩ = some (.pointer (some ⟨b, 0, none⟩)) := by
  obtain ⟨arr, h1, h2, h3, h4, h5⟩ := h
  exact (Joins.cell_of_block h1 0).trans h2
theorem HandAt.c1 (h : HandAt hb b t bad ty rest w) : w.cell? ⟨hb, 1, none⟩ = some (.int .i64 t) := by
  obtain ⟨arr, h1, h2, h3, h4, h5⟩ := h
  exact (Joins.cell_of_block h1 1).trans h3
theorem HandAt.c2 (h : HandAt hb b t bad ty rest w) : w.cell? ⟨hb, 2, none⟩ = some (.int .i64 bad) := by
  obtain ⟨arr, h1, h2, h3, h4, h5⟩ := h
  exact (Joins.cell_of_block h1 2).trans h4
theorem HandAt.c3 (h : HandAt hb b t bad ty rest w) : w.cell? ⟨hb, 3, none⟩ = rest := by
  obtain ⟨arr, h1, h2, h3, h4, h5⟩ := h
  exact (Joins.cell_of_block h1 3).trans h5
theorem HandAt.f (h : HandAt hb b t bad ty rest w) (j : Nat) : w.frozen? ⟨hb, j, none⟩ = false := by
  obtain ⟨arr, h1, h2⟩ := h
  exact Joins.unfrozen_of_block h1 j
theorem HandAt.set (h : HandAt hb b t bad ty rest w) (e : Int) : HandAt hb b t e ty rest (w.setCell ⟨hb, 2, none⟩ (.int .i64 e)) := by
  obtain ⟨arr, h1, h2, h3, h4, h5⟩ := h
  refine ⟨arr.setIfInBounds 2 (.int .i64 e), Joins.block_setCell h1 _, by rw [set_at (by omega)]; exact h2, by rw [set_at (by omega)]; exact h3, set_same (by have := (Array.getElem?_eq_some_iff.1 h4).1; omega), by rw [set_at (by omega)]; exact h5⟩
end
theorem HandAt.other {hb b t : Nat} {bad : Int} {ty : TypeId} {rest : Option Value} {w : World} (h : HandAt hb b t bad ty rest w) {p : Addr} (hp : hb ≠ p.block) (u : Value) : HandAt hb b t bad ty rest (w.setCell p u) := h.keep (Below.heap_setCell _ _ _ _ hp)
theorem HandAt.alloc {hb b t : Nat} {bad : Int} {ty : TypeId} {rest : Option Value} {w : World} (h : HandAt hb b t bad ty rest w) (o : Obj) : HandAt hb b t bad ty rest (w.alloc o) := h.keep (Below.heap_alloc _ _ _ h.lt)
theorem HandAt.drew {hb b t : Nat} {bad : Int} {ty : TypeId} {rest : Option Value} {w : World} (h : HandAt hb b t bad ty rest w) : HandAt hb b t bad ty rest w.drew := h.keep rfl
/-- What a hand's method comes to. -/
def HMut (w : World) (F : Nat → Prop) (hb b t : Nat) (ty : TypeId) (rest : Option Value) (Post : ArS → Int → Value → Prop) (e : Ending) (w' : World) : Prop :=
  ∃ S' bad' v F', e = .returned v ∧ Post S' bad' v ∧ IsAr b S' w' F' ∧ HandAt hb b t bad' ty rest w' ∧ (∀ i, F' i → F i ∨ w.heap.size ≤ i) ∧ Keeps (fun i => F i ∨ i = hb) w w'
def JoinH (S : ArS) (t : Nat) (q : Four) (bad r : Int) (S' : ArS) (bad' : Int) : Prop := (bad ≠ 0 → r = 0 ∧ bad' = bad ∧ S' = S) ∧ (bad = 0 → JoinR S t q r bad' S')
set_option maxHeartbeats 4000000 in
set_option maxRecDepth 100000 in
theorem hjoin_any (hb b t : Nat) (bad : Int) (ty : TypeId) (rest : Option Value) (S : ArS) (F : Nat → Prop) (q : Four) (w : World) (h : IsAr b S w F) (hh : HandAt hb b t bad ty rest w) (hn : ¬ F hb) (hq : I64 q.1 ∧ I64 q.2.1 ∧ I64 q.2.2.1 ∧ I64 q.2.2.2) :
    Calls Try.prog 30 #[.pointer (some ⟨hb, 0, none⟩), fourV q] w (HMut w F hb b t ty rest fun S' bad' v => ∃ r, v = .int .i64 r ∧ JoinH S t q bad r S' bad') := by
  have hbX : Below w.heap.size w (w.alloc (.cells #[.int .i64 q.1, .int .i64 q.2.1, .int .i64 q.2.2.1, .int .i64 q.2.2.2] 72 (0, 0))) := (Below.refl _ _).alloc (Nat.le_refl _) _
  have hX := h.below hbX
  obtain ⟨X, hXe⟩ : ∃ X, X = w.alloc (.cells #[.int .i64 q.1, .int .i64 q.2.1, .int .i64 q.2.2.1, .int .i64 q.2.2.2] 72 (0, 0)) := ⟨_, rfl⟩
  rw [← hXe] at hbX hX
  have hbx0 : X.heap[w.heap.size]? = some (.cells #[.int .i64 q.1, .int .i64 q.2.1, .int .i64 q.2.2.1, .int .i64 q.2.2.2] 72 (0, 0)) := by rw [hXe]; exact blk_last w _ rfl
  have hhX : HandAt hb b t bad ty rest X := hh.keep (hbX.block hb hh.lt)
  have c0 := hhX.c0
  have c1 := hhX.c1
  have c2 := hhX.c2
  have hlt := hh.lt
  have HXE := Lib.hid hXe
  have HIX := Lib.hid hX
  have HHX := Lib.hid hhX
  have HBX := Lib.hid hbX
  have HKX := Lib.hid (Keeps.of_below (F := fun i => F i ∨ i = hb) hbX)
  have HFL := Lib.hid h.lt
  by_cases hbad : bad = 0
  · subst hbad
    have d0 := Joins.cell_of_block hbx0 0
    have d1 := Joins.cell_of_block hbx0 1
    have d2 := Joins.cell_of_block hbx0 2
    have d3 := Joins.cell_of_block hbx0 3
    simp at d0 d1 d2 d3
    have HJ := Lib.hid (join_any b S F t q X.drew (hX.keep ((Keeps.refl (fun _ => False) X).drew) (fun _ _ h => h)) hq)
    have HXZ := Lib.hid (lt_of_block hbx0)
    have hcs : X.drew.cell? ⟨hb, 0, none⟩ = some (.pointer (some ⟨b, 0, none⟩)) ∧ X.drew.cell? ⟨hb, 1, none⟩ = some (.int .i64 t) ∧ X.drew.cell? ⟨w.heap.size, 0, none⟩ = some (.int .i64 q.1) ∧ X.drew.cell? ⟨w.heap.size, 1, none⟩ = some (.int .i64 q.2.1) ∧ X.drew.cell? ⟨w.heap.size, 2, none⟩ = some (.int .i64 q.2.2.1) ∧ X.drew.cell? ⟨w.heap.size, 3, none⟩ = some (.int .i64 q.2.2.2) := ⟨c0, c1, d0, d1, d2, d3⟩
    have hkeep : ∀ w', Keeps F X.drew w' → w'.cell? ⟨hb, 0, none⟩ = some (.pointer (some ⟨b, 0, none⟩)) ∧ w'.cell? ⟨hb, 1, none⟩ = some (.int .i64 t) ∧ w'.cell? ⟨w.heap.size, 0, none⟩ = some (.int .i64 q.1) ∧ w'.cell? ⟨w.heap.size, 1, none⟩ = some (.int .i64 q.2.1) ∧ w'.cell? ⟨w.heap.size, 2, none⟩ = some (.int .i64 q.2.2.1) ∧ w'.cell? ⟨w.heap.size, 3, none⟩ = some (.int .i64 q.2.2.2) := fun w' hk => by
      have hbl : hb < X.drew.heap.size := hhX.lt
      have hwl : w.heap.size < X.drew.heap.size := lt_of_block hbx0
      have hFw : ¬ F w.heap.size := fun e => by have := h.lt _ e; omega
      have e1 := fun j => hk.cell (p := ⟨hb, j, none⟩) hbl hn
      have e2 := fun j => hk.cell (p := ⟨w.heap.size, j, none⟩) hwl hFw
      exact ⟨(e1 0).trans c0, (e1 1).trans c1, (e2 0).trans d0, (e2 1).trans d1, (e2 2).trans d2, (e2 3).trans d3⟩
    have HK := Lib.hid hkeep
    have HCS := Lib.hid hcs
    clear hXe h hX hbx0 hq hbX hh hhX hkeep hcs
    unfold fourV at HJ ⊢
    go_enter Try.func30, Try.ntmps30
    go_upto_region 1 with fail
    rw [← HXE.out]
    go_wp2_with fail
    go_region_held3 (fun w' => w'.cell? ⟨hb, 0, none⟩ = some (.pointer (some ⟨b, 0, none⟩)) ∧ w'.cell? ⟨hb, 1, none⟩ = some (.int .i64 t) ∧ w'.cell? ⟨w.heap.size, 0, none⟩ = some (.int .i64 q.1) ∧ w'.cell? ⟨w.heap.size, 1, none⟩ = some (.int .i64 q.2.1) ∧ w'.cell? ⟨w.heap.size, 2, none⟩ = some (.int .i64 q.2.2.1) ∧ w'.cell? ⟨w.heap.size, 3, none⟩ = some (.int .i64 q.2.2.2)) (first | exact HCS.out | exact HK.out _ (by assumption)) ((go_at_call 45; with_reducible refine HJ.out.mono ?_; rintro e w4 ⟨r, er, S', F', rfl, h1, h2, h3, h4⟩))
    have hh4 : HandAt hb b t 0 ty rest w4 := HHX.out.keep (h4.block hb HHX.out.lt hn)
    have k2 := hh4.c2
    have f2 := hh4.f 2
    have H1 := Lib.hid h1
    have H2 := Lib.hid h2
    have H3 := Lib.hid h3
    have H4 := Lib.hid h4
    have HH4 := Lib.hid hh4
    clear h1 h2 h3 h4 hh4 d0 d1 d2 d3 c0 c1 c2
    go_wp2_with fail
    go_ret
    refine ⟨S', er, .int .i64 r, F', rfl, ⟨r, rfl, fun h => absurd rfl h, fun _ => H1.out⟩, H2.out.keep (G := fun i => i = hb) (Keeps.setCell (p := ⟨hb, 2, none⟩) (Keeps.refl (fun i => i = hb) w4) (fun _ => rfl) _) (fun i hi e => ?_), HH4.out.set er, fun i hi => ?_, ?_⟩
    · subst e
      rcases H3.out i hi with h | h
      · exact hn h
      · have h' : X.heap.size ≤ i := h
        have := HHX.out.lt; omega
    · rcases H3.out i hi with h | h
      · exact .inl h
      · exact .inr (Nat.le_trans HBX.out.size h)
    · exact Keeps.setCell (p := ⟨hb, 2, none⟩) (HKX.out.drew.trans (H4.out.mono (G := fun i => F i ∨ i = hb) fun i _ h => .inl h) (fun i _ h => h)) (fun _ => .inr rfl) _
  · have g1 : (bad == 0) = false := by simpa using hbad
    have g2 : (bad != 0) = true := by simpa using hbad
    clear hXe h hX hbx0 hq hbX hh hhX
    unfold fourV
    go_enter Try.func30, Try.ntmps30
    go_upto_region 1 with fail
    rw [← HXE.out]
    go_wp2_with fail
    go_ret
    exact ⟨S, bad, .int .i64 0, F, rfl, ⟨0, rfl, fun _ => ⟨rfl, rfl, rfl⟩, fun h => absurd h hbad⟩, HIX.out, HHX.out, fun i hi => .inl hi, HKX.out⟩
/-- What a hand's reading method comes to: its error alone may have turned. -/
def HRead (w : World) (hb b t : Nat) (ty : TypeId) (rest : Option Value) (v : Value) (bad' : Int) (e : Ending) (w' : World) : Prop :=
  e = .returned v ∧ HandAt hb b t bad' ty rest w' ∧ Keeps (fun i => i = hb) w w'
set_option maxHeartbeats 4000000 in
set_option maxRecDepth 100000 in
theorem hlevel_any (hb b t : Nat) (bad : Int) (ty : TypeId) (rest : Option Value) (S : ArS) (F : Nat → Prop) (id : Int) (w : World) (h : IsAr b S w F) (hh : HandAt hb b t bad ty rest w) (_hn : ¬ F hb) :
    Calls Try.prog 20 #[.pointer (some ⟨hb, 0, none⟩), .int .i64 id] w (HRead w hb b t ty rest (.int .i64 (if bad = 0 then (levelA S t id).1 else 0)) (if bad = 0 then (levelA S t id).2 else bad)) := by
  have c0 := hh.c0
  have c1 := hh.c1
  have c2 := hh.c2
  have f2 := hh.f 2
  by_cases hbad : bad = 0
  · subst hbad
    rw [if_pos rfl, if_pos rfl]
    obtain ⟨v, hv⟩ : ∃ v, v = (levelA S t id).1 := ⟨_, rfl⟩
    obtain ⟨er, her⟩ : ∃ v, v = (levelA S t id).2 := ⟨_, rfl⟩
    have hl := level_any b S F t id w.drew (h.keep ((Keeps.refl (fun _ => False) w).drew) (fun _ _ h => h))
    rw [← hv, ← her] at hl
    rw [← hv, ← her]
    have HL := Lib.hid hl
    have HH := Lib.hid hh
    have HCS := Lib.hid (show w.drew.cell? ⟨hb, 0, none⟩ = some (.pointer (some ⟨b, 0, none⟩)) ∧ w.drew.cell? ⟨hb, 1, none⟩ = some (.int .i64 t) from ⟨c0, c1⟩)
    clear hl hv her h hh
    go_enter Try.func20, Try.ntmps20
    go_upto_region 3 with fail
    go_region_held3 (fun w' => w'.cell? ⟨hb, 0, none⟩ = some (.pointer (some ⟨b, 0, none⟩)) ∧ w'.cell? ⟨hb, 1, none⟩ = some (.int .i64 t)) (exact HCS.out) ((go_at_call 31; with_reducible refine HL.out.mono ?_; rintro e w4 ⟨rfl, rfl⟩))
    obtain ⟨X, hX⟩ : ∃ X, X = w.drew := ⟨_, rfl⟩
    rw [← hX]
    have hhX : HandAt hb b t 0 ty rest X := by rw [hX]; exact HH.out.keep rfl
    have k2 := hhX.c2
    have k3 := hhX.f 2
    have HHX := Lib.hid hhX
    have HKX := Lib.hid (show Keeps (fun i => i = hb) w X by rw [hX]; exact (Keeps.refl _ w).drew)
    clear hX hhX c0 c1 c2 f2
    go_wp2_with fail
    go_ret
    exact ⟨rfl, HHX.out.set er, Keeps.setCell (p := ⟨hb, 2, none⟩) HKX.out (fun _ => rfl) _⟩
  · have g1 : (bad == 0) = false := by simpa using hbad
    have g2 : (bad != 0) = true := by simpa using hbad
    rw [if_neg hbad, if_neg hbad]
    have HH := Lib.hid hh
    clear h hh
    go_enter Try.func20, Try.ntmps20
    go_wp2_with fail
    go_ret
    exact ⟨rfl, HH.out, Keeps.refl _ _⟩
/-- What the region of kids leaves, in its two orders. -/
theorem kids_end1 {hb b t r : Nat} {ty ty2 : TypeId} {rest : Option Value} {w w4 : World} {a0 a1 a2 a3 : Value} (hh : HandAt hb b t 0 ty rest w4) (hk : Keeps (fun i => i = hb) w w4) (hr : w4.heap[r]? = some (.cells #[a0, a1, a2, a3] ty2 (0, 0))) (_hlt : hb < w.heap.size) (hrw : hb < r) (er v0 v1 v2 v3 : Int) :
    HandAt hb b t er ty rest ((w4.setCell ⟨hb, 2, none⟩ (.int .i64 er)).alloc (.cells #[.int .i64 v0, .int .i64 v1, .int .i64 v2, .int .i64 v3] ty2 (0, 0))) ∧ Keeps (fun i => i = hb) w ((w4.setCell ⟨hb, 2, none⟩ (.int .i64 er)).alloc (.cells #[.int .i64 v0, .int .i64 v1, .int .i64 v2, .int .i64 v3] ty2 (0, 0))) ∧
    ((w4.setCell ⟨hb, 2, none⟩ (.int .i64 er)).alloc (.cells #[.int .i64 v0, .int .i64 v1, .int .i64 v2, .int .i64 v3] ty2 (0, 0))).heap[r]? = some (.cells #[a0, a1, a2, a3] ty2 (0, 0)) ∧
    ((w4.setCell ⟨hb, 2, none⟩ (.int .i64 er)).alloc (.cells #[.int .i64 v0, .int .i64 v1, .int .i64 v2, .int .i64 v3] ty2 (0, 0))).heap[w4.heap.size]? = some (.cells #[.int .i64 v0, .int .i64 v1, .int .i64 v2, .int .i64 v3] ty2 (0, 0)) := by
  have e : (w4.setCell ⟨hb, 2, none⟩ (.int .i64 er)).heap.size = w4.heap.size := by simp [World.setCell]
  have hrl := lt_of_block hr
  refine ⟨(hh.set er).alloc _, (Keeps.setCell (p := ⟨hb, 2, none⟩) hk (fun _ => rfl) _).alloc _, ?_, by rw [← e]; exact blk_last _ _ rfl⟩
  rw [Below.heap_alloc _ _ _ (by rw [e]; exact hrl), Below.heap_setCell _ _ _ _ (by show r ≠ hb; omega)]; exact hr
theorem kids_end2 {hb b t r : Nat} {ty ty2 : TypeId} {rest : Option Value} {w w4 : World} {X : Nat} {a0 a1 a2 a3 b0 b1 b2 b3 : Value} (hh : HandAt hb b t 0 ty rest w4) (hk : Keeps (fun i => i = hb) w w4) (hr : w4.heap[r]? = some (.cells #[a0, a1, a2, a3] ty2 (0, 0))) (hX : w4.heap[X]? = some (.cells #[b0, b1, b2, b3] ty2 (0, 0))) (_hlt : hb < w.heap.size) (hrw : hb < r ∧ r < X ∧ w.heap.size ≤ X) (er v0 v1 v2 v3 : Int) :
    HandAt hb b t er ty rest (((((w4.setCell ⟨X, 0, none⟩ (.int .i64 v0)).setCell ⟨X, 1, none⟩ (.int .i64 v1)).setCell ⟨X, 2, none⟩ (.int .i64 v2)).setCell ⟨X, 3, none⟩ (.int .i64 v3)).setCell ⟨hb, 2, none⟩ (.int .i64 er)) ∧
    Keeps (fun i => i = hb) w (((((w4.setCell ⟨X, 0, none⟩ (.int .i64 v0)).setCell ⟨X, 1, none⟩ (.int .i64 v1)).setCell ⟨X, 2, none⟩ (.int .i64 v2)).setCell ⟨X, 3, none⟩ (.int .i64 v3)).setCell ⟨hb, 2, none⟩ (.int .i64 er)) ∧
    (((((w4.setCell ⟨X, 0, none⟩ (.int .i64 v0)).setCell ⟨X, 1, none⟩ (.int .i64 v1)).setCell ⟨X, 2, none⟩ (.int .i64 v2)).setCell ⟨X, 3, none⟩ (.int .i64 v3)).setCell ⟨hb, 2, none⟩ (.int .i64 er)).heap[r]? = some (.cells #[a0, a1, a2, a3] ty2 (0, 0)) ∧
    (((((w4.setCell ⟨X, 0, none⟩ (.int .i64 v0)).setCell ⟨X, 1, none⟩ (.int .i64 v1)).setCell ⟨X, 2, none⟩ (.int .i64 v2)).setCell ⟨X, 3, none⟩ (.int .i64 v3)).setCell ⟨hb, 2, none⟩ (.int .i64 er)).heap[X]? = some (.cells #[.int .i64 v0, .int .i64 v1, .int .i64 v2, .int .i64 v3] ty2 (0, 0)) := by
  obtain ⟨h1, h2, h3⟩ := hrw
  have no : ∀ (W : World) (j : Nat) (u : Value), (W.setCell ⟨X, j, none⟩ u).heap[r]? = W.heap[r]? := fun W j u => Below.heap_setCell _ _ _ _ (by show r ≠ X; omega)
  refine ⟨HandAt.set (bad := 0) (HandAt.other (HandAt.other (HandAt.other (HandAt.other hh (by show hb ≠ X; omega) _) (by show hb ≠ X; omega) _) (by show hb ≠ X; omega) _) (by show hb ≠ X; omega) _) er,
    Keeps.setCell (Keeps.setCell (Keeps.setCell (Keeps.setCell (Keeps.setCell hk (fun hp => absurd (show X < w.heap.size from hp) (by omega)) _) (fun hp => absurd (show X < w.heap.size from hp) (by omega)) _) (fun hp => absurd (show X < w.heap.size from hp) (by omega)) _) (fun hp => absurd (show X < w.heap.size from hp) (by omega)) _) (fun _ => rfl) _, ?_, ?_⟩
  · rw [Below.heap_setCell _ _ _ _ (by show r ≠ hb; omega), no, no, no, no]; exact hr
  · rw [Below.heap_setCell _ _ _ _ (by show X ≠ hb; omega)]; exact set4 hX
set_option maxHeartbeats 4000000 in
set_option maxRecDepth 100000 in
theorem hkids_any (hb b t : Nat) (bad : Int) (ty : TypeId) (rest : Option Value) (S : ArS) (F : Nat → Prop) (id : Int) (w : World) (h : IsAr b S w F) (hh : HandAt hb b t bad ty rest w) (_hn : ¬ F hb) :
    Calls Try.prog 28 #[.pointer (some ⟨hb, 0, none⟩), .int .i64 id] w (HRead w hb b t ty rest (fourV (if bad = 0 then (kidsA S t id).1 else (0, 0, 0, 0))) (if bad = 0 then (kidsA S t id).2 else bad)) := by
  have hbX : Below w.heap.size w (w.alloc (.cells #[.int .i64 0, .int .i64 0, .int .i64 0, .int .i64 0] 72 (0, 0))) := (Below.refl _ _).alloc (Nat.le_refl _) _
  have hX := h.below hbX
  obtain ⟨X, hXe⟩ : ∃ X, X = w.alloc (.cells #[.int .i64 0, .int .i64 0, .int .i64 0, .int .i64 0] 72 (0, 0)) := ⟨_, rfl⟩
  rw [← hXe] at hbX hX
  have hbx0 : X.heap[w.heap.size]? = some (.cells #[.int .i64 0, .int .i64 0, .int .i64 0, .int .i64 0] 72 (0, 0)) := by rw [hXe]; exact blk_last w _ rfl
  have hhX : HandAt hb b t bad ty rest X := hh.keep (hbX.block hb hh.lt)
  have c0 := hhX.c0
  have c1 := hhX.c1
  have c2 := hhX.c2
  have hlt := hh.lt
  have HXE := Lib.hid hXe
  have HBX := Lib.hid hbX
  have HHX := Lib.hid hhX
  have HBR := Lib.hid hbx0
  by_cases hbad : bad = 0
  · subst hbad
    rw [if_pos rfl, if_pos rfl]
    obtain ⟨v, hv⟩ : ∃ v, v = (kidsA S t id).1 := ⟨_, rfl⟩
    obtain ⟨er, her⟩ : ∃ v, v = (kidsA S t id).2 := ⟨_, rfl⟩
    have hl : ∀ W, Below X.heap.size X W → Calls Try.prog 44 #[.pointer (some ⟨b, 0, none⟩), .int .i64 t, .int .i64 id] W fun e w' => e = .returned (.tuple #[fourV (kidsA S t id).1, .int .i64 (kidsA S t id).2]) ∧ Below X.heap.size X w' ∧ Below W.heap.size W w' := fun W hW =>
      (kids_any b S F t id W (hX.below hW)).mono fun e w' ⟨h1, h2⟩ => ⟨h1, hW.trans (h2.mono hW.size), h2⟩
    rw [← hv, ← her] at hl
    rw [← hv, ← her]
    have HL := Lib.hid hl
    have hkeep : ∀ w', Below X.heap.size X w' → w'.cell? ⟨hb, 0, none⟩ = some (.pointer (some ⟨b, 0, none⟩)) ∧ w'.cell? ⟨hb, 1, none⟩ = some (.int .i64 t) := fun w' hk =>
      ⟨(hk.cell (p := ⟨hb, 0, none⟩) hhX.lt).trans c0, (hk.cell (p := ⟨hb, 1, none⟩) hhX.lt).trans c1⟩
    have HK := Lib.hid hkeep
    have hnew : ∀ w', Below ((X.alloc (.cells #[.int .i64 0, .int .i64 0, .int .i64 0, .int .i64 0] 72 (0, 0))).drew).heap.size ((X.alloc (.cells #[.int .i64 0, .int .i64 0, .int .i64 0, .int .i64 0] 72 (0, 0))).drew) w' →
        w'.cell? ⟨X.heap.size, 0, none⟩ = some (.int .i64 0) ∧ w'.cell? ⟨X.heap.size, 1, none⟩ = some (.int .i64 0) ∧ w'.cell? ⟨X.heap.size, 2, none⟩ = some (.int .i64 0) ∧ w'.cell? ⟨X.heap.size, 3, none⟩ = some (.int .i64 0) ∧ (∀ j, w'.frozen? ⟨X.heap.size, j, none⟩ = false) ∧ RowKit.Hid (w'.heap[X.heap.size]? = some (.cells #[.int .i64 0, .int .i64 0, .int .i64 0, .int .i64 0] 72 (0, 0))) := fun w' hk => by
      have hb : w'.heap[X.heap.size]? = some (.cells #[.int .i64 0, .int .i64 0, .int .i64 0, .int .i64 0] 72 (0, 0)) := (hk.block X.heap.size (by show X.heap.size < (X.alloc _).heap.size; simp)).trans (blk_last X _ rfl)
      exact ⟨Joins.cell_of_block hb 0, Joins.cell_of_block hb 1, Joins.cell_of_block hb 2, Joins.cell_of_block hb 3, fun j => Joins.unfrozen_of_block hb j, Lib.hid hb⟩
    have HNW := Lib.hid hnew
    have HXX := Lib.hid (show Below X.heap.size X X.drew from (Below.refl _ X).drew)
    have hXd : Below X.heap.size X X.drew := (Below.refl _ X).drew
    clear hl hkeep hnew hXe h hX hbx0 hbX hh hhX hv her
    obtain ⟨v0, v1, v2, v3⟩ := v
    unfold fourV at HL ⊢
    simp only at HL ⊢
    go_enter Try.func28, Try.ntmps28
    go_upto_region 1 with fail
    rw [← HXE.out]
    go_upto_region 3 with fail
    go_region_held3 (fun w' => w'.cell? ⟨hb, 0, none⟩ = some (.pointer (some ⟨b, 0, none⟩)) ∧ w'.cell? ⟨hb, 1, none⟩ = some (.int .i64 t)) (first | exact HK.out _ HXX.out | exact HK.out _ (by assumption) | exact HK.out _ (((Below.refl _ X).alloc (Nat.le_refl _) _).drew) | (refine HK.out _ ?_; repeat (first | assumption | refine Below.setCell ?_ (by first | exact Nat.le_refl _ | (have := Below.size (show Below X.heap.size X _ by assumption); simp; omega)) _ | refine Below.alloc ?_ (Below.size (show Below X.heap.size X _ by assumption)) _))) ((go_at_call 44; first | (with_reducible refine (HL.out _ (by assumption)).mono ?_; rintro e w4 ⟨rfl, h1, h2⟩) | (with_reducible refine (HL.out _ (((Below.refl _ X).alloc (Nat.le_refl _) _).drew)).mono ?_; rintro e w4 ⟨rfl, h1, h2⟩; obtain ⟨k0, k1, k2, k3, kf, KB⟩ := HNW.out _ h2)))
    all_goals
      have hh4 : HandAt hb b t 0 ty rest w4 := HHX.out.keep (h1.block hb HHX.out.lt)
      have k9 := hh4.c2
      have f9 := hh4.f 2
      have hbr : w4.heap[w.heap.size]? = some (.cells #[.int .i64 0, .int .i64 0, .int .i64 0, .int .i64 0] 72 (0, 0)) := (h1.block _ (lt_of_block HBR.out)).trans HBR.out
      have r0 := Joins.cell_of_block hbr 0
      have r1 := Joins.cell_of_block hbr 1
      have r2 := Joins.cell_of_block hbr 2
      have r3 := Joins.cell_of_block hbr 3
      have r4 := fun j => Joins.unfrozen_of_block hbr j
      simp at r0 r1 r2 r3
      have hwX : w.heap.size < X.heap.size := lt_of_block HBR.out
      have hXw : X.heap.size ≤ w4.heap.size := h1.size
      have hb4 : hb < w4.heap.size := by omega
      have hw4 : w.heap.size < w4.heap.size := by omega
      have HH4 := Lib.hid hh4
      have HB4 := Lib.hid h1
      have HB5 := Lib.hid h2
      have HBR4 := Lib.hid hbr
      clear h1 h2 hh4 hbr c0 c1 c2
      go_upto_region 5 with fail
      refine wp_named ?_
      intro W5 hW5
      have hk4 : Keeps (fun i => i = hb) w w4 := (Keeps.of_below HBX.out).below HB4.out
    · obtain ⟨hh5, hk5, hr5, hg⟩ := kids_end1 (w := w) HH4.out hk4 HBR4.out hlt (by omega) er v0 v1 v2 v3
      rw [← hW5] at hh5 hk5 hr5 hg
      have r0 := Joins.cell_of_block hr5 0
      have r1 := Joins.cell_of_block hr5 1
      have r2 := Joins.cell_of_block hr5 2
      have r3 := Joins.cell_of_block hr5 3
      have r4 := fun j => Joins.unfrozen_of_block hr5 j
      have g0 := Joins.cell_of_block hg 0
      have g1 := Joins.cell_of_block hg 1
      have g2 := Joins.cell_of_block hg 2
      have g3 := Joins.cell_of_block hg 3
      simp at r0 r1 r2 r3 g0 g1 g2 g3
      have HH5 := Lib.hid hh5
      have HK5 := Lib.hid hk5
      have HR5 := Lib.hid hr5
      clear hh5 hk5 hr5 hg hW5 hk4
      go_wp2_with fail
      refine bodyPost_ret (v := .agg #[.int .i64 v0, .int .i64 v1, .int .i64 v2, .int .i64 v3]) (results_cell_row (g := w.heap.size) (t := 72) (cs := #[.int .i64 v0, .int .i64 v1, .int .i64 v2, .int .i64 v3]) (fr := (0, 0)) (d := _) rfl _ _ rfl (set4 HR5.out) rfl rfl rfl) rfl ⟨rfl, ?_, ?_⟩
      · exact HandAt.other (HandAt.other (HandAt.other (HandAt.other HH5.out (by simp only; omega) _) (by simp only; omega) _) (by simp only; omega) _) (by simp only; omega) _
      · exact Keeps.setCell (Keeps.setCell (Keeps.setCell (Keeps.setCell HK5.out (fun hp => by exfalso; simp only at hp; omega) _) (fun hp => by exfalso; simp only at hp; omega) _) (fun hp => by exfalso; simp only at hp; omega) _) (fun hp => by exfalso; simp only at hp; omega) _
    · obtain ⟨hh5, hk5, hr5, hg⟩ := kids_end2 (w := w) HH4.out hk4 HBR4.out KB.out hlt (by omega) er v0 v1 v2 v3
      rw [← hW5] at hh5 hk5 hr5 hg
      have r0 := Joins.cell_of_block hr5 0
      have r1 := Joins.cell_of_block hr5 1
      have r2 := Joins.cell_of_block hr5 2
      have r3 := Joins.cell_of_block hr5 3
      have r4 := fun j => Joins.unfrozen_of_block hr5 j
      have g0 := Joins.cell_of_block hg 0
      have g1 := Joins.cell_of_block hg 1
      have g2 := Joins.cell_of_block hg 2
      have g3 := Joins.cell_of_block hg 3
      simp at r0 r1 r2 r3 g0 g1 g2 g3
      have HH5 := Lib.hid hh5
      have HK5 := Lib.hid hk5
      have HR5 := Lib.hid hr5
      clear hh5 hk5 hr5 hg hW5 hk4
      go_wp2_with fail
      refine bodyPost_ret (v := .agg #[.int .i64 v0, .int .i64 v1, .int .i64 v2, .int .i64 v3]) (results_cell_row (g := w.heap.size) (t := 72) (cs := #[.int .i64 v0, .int .i64 v1, .int .i64 v2, .int .i64 v3]) (fr := (0, 0)) (d := _) rfl _ _ rfl (set4 HR5.out) rfl rfl rfl) rfl ⟨rfl, ?_, ?_⟩
      · exact HandAt.other (HandAt.other (HandAt.other (HandAt.other HH5.out (by simp only; omega) _) (by simp only; omega) _) (by simp only; omega) _) (by simp only; omega) _
      · exact Keeps.setCell (Keeps.setCell (Keeps.setCell (Keeps.setCell HK5.out (fun hp => by exfalso; simp only at hp; omega) _) (fun hp => by exfalso; simp only at hp; omega) _) (fun hp => by exfalso; simp only at hp; omega) _) (fun hp => by exfalso; simp only at hp; omega) _
  · have g1 : (bad == 0) = false := by simpa using hbad
    have g2 : (bad != 0) = true := by simpa using hbad
    rw [if_neg hbad, if_neg hbad]
    have r0 := Joins.cell_of_block hbx0 0
    have r1 := Joins.cell_of_block hbx0 1
    have r2 := Joins.cell_of_block hbx0 2
    have r3 := Joins.cell_of_block hbx0 3
    have r4 := fun j => Joins.unfrozen_of_block hbx0 j
    simp at r0 r1 r2 r3
    clear hXe h hX hbx0 hbX hh hhX
    unfold fourV
    go_enter Try.func28, Try.ntmps28
    go_upto_region 1 with fail
    rw [← HXE.out]
    go_wp2_with fail
    refine bodyPost_ret (v := .agg #[.int .i64 0, .int .i64 0, .int .i64 0, .int .i64 0]) (results_cell_row (g := w.heap.size) (t := 72) (cs := #[.int .i64 0, .int .i64 0, .int .i64 0, .int .i64 0]) (fr := (0, 0)) (d := _) rfl _ _ rfl (set4 HBR.out) rfl rfl rfl) rfl ⟨rfl, ?_, ?_⟩
    · repeat (with_reducible refine HandAt.other ?_ (by simp only; omega) _)
      with_reducible exact HHX.out
    · have hk4 : Keeps (fun i => i = hb) w X := (Keeps.of_below HBX.out)
      repeat (with_reducible refine Keeps.setCell ?_ (fun hp => by first | rfl | (exfalso; simp only at hp; omega)) _)
      with_reducible exact hk4
theorem half_any (level : Nat) (h1 : 1 ≤ level) (h2 : level ≤ 60) (w : World) : Calls Try.prog 22 #[.int .i64 level] w fun e w' => e = .returned (.int .i64 ((2 ^ (level - 1) : Nat) : Int)) ∧ w' = w := by
  obtain ⟨k, rfl⟩ : ∃ k, level = k + 1 := ⟨level - 1, by omega⟩
  have e1 : ((k + 1 : Nat) : Int) - 1 = (k : Int) := by omega
  have hp : 2 ^ k < 9223372036854775808 := Nat.lt_of_lt_of_le (Nat.pow_lt_pow_right (n := 63) (by omega) (by omega)) (by omega)
  go_enter Try.func22, Try.ntmps22
  have e2 : IntKind.i64.wrap (2 ^ k) = ((2 ^ k : Nat) : Int) := by
    rw [IntKind.wrap_i64, show ((2 : Int) ^ k) = ((2 ^ k : Nat) : Int) by rw [Int.natCast_pow]; rfl]
    obtain ⟨p, hpe⟩ : ∃ p : Nat, p = 2 ^ k := ⟨_, rfl⟩
    rw [← hpe] at hp ⊢
    omega
  go_wp2_with fail
  go_ret
  refine ⟨?_, rfl⟩
  rw [show ((k + 1 - 1 : Nat)) = k from rfl, show (((2 ^ k : Nat)) : Int) = (2 : Int) ^ k by rw [Int.natCast_pow]; rfl]; rfl
set_option maxHeartbeats 1000000 in
theorem done_any (hb b t : Nat) (bad : Int) (ty : TypeId) (rest : Option Value) (id : Int) (w : World) (hh : HandAt hb b t bad ty rest w) :
    Calls Try.prog 26 #[.pointer (some ⟨hb, 0, none⟩), .int .i64 id] w fun e w' => e = .returned (.tuple #[.int .i64 (if bad = 0 then id else 0), .int .i64 bad]) ∧ Below w.heap.size w w' := by
  have c2 := hh.c2
  clear hh
  by_cases hbad : bad = 0
  · subst hbad
    rw [if_pos rfl]
    go_enter Try.func26, Try.ntmps26
    go_wp2_with fail
    go_ret2
    exact ⟨rfl, Below.refl _ _⟩
  · have g1 : (bad == 0) = false := by simpa using hbad
    have g2 : (bad != 0) = true := by simpa using hbad
    rw [if_neg hbad]
    go_enter Try.func26, Try.ntmps26
    go_wp2_with fail
    go_region
    go_wp2_with fail
    go_ret2
    exact ⟨rfl, (Below.refl _ w).drew⟩
end Go.Proofs.Ytabhpbkkjijfjaa
