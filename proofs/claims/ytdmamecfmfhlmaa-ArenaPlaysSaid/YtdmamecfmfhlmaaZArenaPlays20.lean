/-
  What roots are made of: plain lists; and what Clean takes away; Maps whose keys are numbers; Clean's first loop: its state in memory.
-/
import Derived.Test.YtdmamecfmfhlmaaZArenaPlaysArUndo
import Derived.Test.YtdmamecfmfhlmaaZArenaPlaysMapCells
namespace Go.Proofs.Ytdmamecfmfhlmaa
set_option maxRecDepth 100000

/-- A root that is a tenant's own, or a part of such a thing that is its own. -/
inductive Reach (L : List (Option Ent)) (t : Nat) (rs : List Int) : Int → Prop
  | root {r : Int} : r ∈ rs → 2 ≤ r → ownsA L t r 0 = true → Reach L t rs r
  | kid {i c : Int} {x : Ent} : Reach L t rs i → atL L i.toNat = some x → c ∈ [x.a, x.b, x.c, x.d] → 2 ≤ c → ownsA L t c 0 = true → Reach L t rs c
theorem Reach.two {L : List (Option Ent)} {t : Nat} {rs : List Int} {i : Int} (h : Reach L t rs i) : 2 ≤ i := by cases h <;> assumption
theorem Reach.owns {L : List (Option Ent)} {t : Nat} {rs : List Int} {i : Int} (h : Reach L t rs i) : ownsA L t i 0 = true := by cases h <;> assumption
theorem owns_here {L : List (Option Ent)} {t : Nat} {i : Int} (h2 : 2 ≤ i) (h : ownsA L t i 0 = true) : ∃ x, atL L i.toNat = some x ∧ x.k = 0 ∧ x.ma.testBit t = true := by
  unfold ownsA at h
  rw [decide_eq_false (show ¬ i = 0 by omega), decide_eq_false (show ¬ i = 1 by omega), decide_eq_true h2] at h
  cases hx : atL L i.toNat with
  | none => rw [hx] at h; simp at h
  | some x =>
    rw [hx] at h
    simp at h
    exact ⟨x, rfl, h.1, h.2⟩
/-- What was kept and what is still to be looked at. -/
structure Work (L : List (Option Ent)) (t : Nat) (rs K W : List Int) : Prop where
  nodup : K.Nodup
  all : ∀ i ∈ K, Reach L t rs i
  todo : ∀ c ∈ W, 2 ≤ c → ownsA L t c 0 = true → Reach L t rs c
  root : ∀ r ∈ rs, 2 ≤ r → ownsA L t r 0 = true → r ∈ K ∨ r ∈ W
  kid : ∀ i ∈ K, ∀ x, atL L i.toNat = some x → ∀ c ∈ [x.a, x.b, x.c, x.d], 2 ≤ c → ownsA L t c 0 = true → c ∈ K ∨ c ∈ W
section
variable {L : List (Option Ent)} {t : Nat} {rs K W : List Int}
theorem Work.start : Work L t rs [] rs := ⟨List.nodup_nil, fun i h => by simp at h, fun _ h h2 ho => .root h h2 ho, fun _ h _ _ => .inr h, fun i h => by simp at h⟩
theorem Work.skip {c : Int} (h : Work L t rs K (W ++ [c])) (hc : c ∈ K ∨ c < 2 ∨ ownsA L t c 0 = false) : Work L t rs K W := by
  have go : ∀ d : Int, 2 ≤ d → ownsA L t d 0 = true → d ∈ K ∨ d ∈ W ++ [c] → d ∈ K ∨ d ∈ W := fun d h2 ho hd => by
    rcases hd with hd | hd
    · exact .inl hd
    · rcases List.mem_append.1 hd with hd | hd
      · exact .inr hd
      · obtain rfl : d = c := by simpa using hd
        rcases hc with hc | hc | hc
        · exact .inl hc
        · omega
        · rw [hc] at ho; cases ho
  exact ⟨h.nodup, h.all, fun d hd => h.todo d (List.mem_append_left _ hd), fun r hr h2 ho => go r h2 ho (h.root r hr h2 ho), fun i hi x hx d hd h2 ho => go d h2 ho (h.kid i hi x hx d hd h2 ho)⟩
theorem Work.step {c : Int} {x : Ent} (h : Work L t rs K (W ++ [c])) (hn : c ∉ K) (h2 : 2 ≤ c) (ho : ownsA L t c 0 = true) (hx : atL L c.toNat = some x) : Work L t rs (c :: K) (W ++ [x.a, x.b, x.c, x.d]) := by
  have hr : Reach L t rs c := h.todo c (by simp) h2 ho
  have go : ∀ d : Int, d ∈ K ∨ d ∈ W ++ [c] → d ∈ c :: K ∨ d ∈ W ++ [x.a, x.b, x.c, x.d] := fun d hd => by
    rcases hd with hd | hd
    · exact .inl (List.mem_cons_of_mem _ hd)
    · rcases List.mem_append.1 hd with hd | hd
      · exact .inr (List.mem_append_left _ hd)
      · obtain rfl : d = c := by simpa using hd
        exact .inl List.mem_cons_self
  refine ⟨List.nodup_cons.2 ⟨hn, h.nodup⟩, fun i hi => ?_, fun d hd g2 go' => ?_, fun r hr' g2 go' => go r (h.root r hr' g2 go'), fun i hi y hy d hd g2 go' => ?_⟩
  · rcases List.mem_cons.1 hi with rfl | hi
    · exact hr
    · exact h.all i hi
  · rcases List.mem_append.1 hd with hd | hd
    · exact h.todo d (List.mem_append_left _ hd) g2 go'
    · exact .kid hr hx hd g2 go'
  · rcases List.mem_cons.1 hi with rfl | hi
    · rw [hx] at hy
      cases hy
      exact .inr (List.mem_append_right _ hd)
    · exact go d (h.kid i hi y hy d hd g2 go')
theorem Work.done (h : Work L t rs K []) (i : Int) : i ∈ K ↔ Reach L t rs i := by
  refine ⟨h.all i, fun hr => ?_⟩
  induction hr with
  | root hr h2 ho => exact (h.root _ hr h2 ho).resolve_right (by simp)
  | kid _ hx hc h2 ho ih => exact (h.kid _ ih _ hx _ hc h2 ho).resolve_right (by simp)
theorem nodup_len : ∀ {D : List Int} {N : Nat}, D.Nodup → (∀ a ∈ D, 0 ≤ a ∧ a < N) → D.length ≤ N
  | D, 0, _, h => by
    cases D with
    | nil => exact Nat.le_refl _
    | cons a D => have := h a List.mem_cons_self; omega
  | D, N + 1, hn, h => by
    have h1 : (D.erase (N : Int)).length ≤ N := nodup_len (hn.erase _) fun a ha => by
      rw [hn.mem_erase_iff] at ha
      have := h a ha.2
      omega
    by_cases hm : (N : Int) ∈ D
    · rw [List.length_erase_of_mem hm] at h1; omega
    · rw [List.erase_of_not_mem hm] at h1; omega
theorem Work.few (h : Work L t rs K W) : K.length ≤ L.length :=
  nodup_len h.nodup fun i hi => by
    have hr := h.all i hi
    have h2 := hr.two
    obtain ⟨x, hx, _⟩ := owns_here h2 hr.owns
    have := atL_lt hx
    omega
end
/-- All that a tenant has but what is kept. -/
def othersOf (n : Nat) (K : List Int) : List Nat := (List.range' 2 (n - 2)).filter fun i : Nat => !K.contains (i : Int)
def cleanA (S : ArS) (t : Nat) (K : List Int) : ArS := loseN t (othersOf S.L.length K) (markA S t)
theorem others_snoc {i : Nat} {K : List Int} (h2 : 2 ≤ i) : (List.range' 2 (i + 1 - 2)).filter (fun i : Nat => !K.contains (i : Int)) = (List.range' 2 (i - 2)).filter (fun i : Nat => !K.contains (i : Int)) ++ (if K.contains (i : Int) then [] else [i]) := by
  have e : i + 1 - 2 = (i - 2) + 1 := by omega
  rw [e, List.range'_concat, List.filter_append]
  have e2 : 2 + 1 * (i - 2) = i := by omega
  rw [e2]
  by_cases hm : (i : Int) ∈ K <;> simp [hm]
end Go.Proofs.Ytdmamecfmfhlmaa
namespace Go.Proofs.Ytdmamecfmfhlmaa
set_option maxRecDepth 100000
open Go.RowKit

def intV (i : Int) : Value := .int .i64 i
theorem int_keyedV : KeyedBy Try.prog 3 intV I64 where
  law := Maps.int_keyed Try.underlying3
  inj := fun a b h => by simpa [intV] using h
  reads := fun x hx => ⟨_, Maps.keyOf_int_mk Try.underlying3 (WalkArith.wf_i64 (by unfold I64 at hx; omega))⟩
end Go.Proofs.Ytdmamecfmfhlmaa
namespace Go.Proofs.Ytdmamecfmfhlmaa
set_option maxRecDepth 100000
open Go.RowKit

def keptF (K : List Int) : Int → Option Value := fun i => if i ∈ K then some (.agg #[]) else none
theorem keptF_cons (K : List Int) (c : Int) : updM (keptF K) c (.agg #[]) = keptF (c :: K) := by
  funext i
  unfold updM keptF
  by_cases e : i = c
  · subst e; simp
  · simp [e]
open Classical in
/-- How many of the first numbers a map of numbers has. -/
noncomputable def keptN (w : World) (mb N : Nat) : Nat := (List.range N).countP fun i : Nat => decide (∃ es cl, w.heap[mb]? = some (.map es cl) ∧ ∃ e ∈ es.toList, e.key = intV (i : Int))
def kc (K : List Int) (N : Nat) : Nat := (List.range N).countP fun i : Nat => decide ((i : Int) ∈ K)
theorem kept_of_map {w : World} {mb n : Nat} {K : List Int} (h : MapOf intV I64 w mb n (keptF K)) (N : Nat) : keptN w mb N = kc K N := by
  obtain ⟨es, cl, hb, _, _, h1, h2⟩ := h
  unfold keptN kc
  refine List.countP_congr fun i _ => ?_
  simp only [decide_eq_true_iff]
  constructor
  · rintro ⟨es', cl', hb', e, he, hk⟩
    rw [hb] at hb'
    cases hb'
    obtain ⟨a, _, ha, hf⟩ := h1 e he
    have : a = (i : Int) := int_keyedV.inj _ _ (ha.symm.trans hk)
    subst this
    unfold keptF at hf
    split at hf
    · assumption
    · cases hf
  · intro hi
    obtain ⟨e, he, hk⟩ := h2 (i : Int) (.agg #[]) (by unfold keptF; rw [if_pos hi])
    exact ⟨es, cl, hb, e, he, hk⟩
theorem kc_le (K : List Int) (N : Nat) : kc K N ≤ N := by
  unfold kc
  exact Nat.le_trans List.countP_le_length (by rw [List.length_range]; exact Nat.le_refl _)
theorem kc_cons {K : List Int} {c : Int} {N : Nat} (hn : c ∉ K) (h0 : 0 ≤ c) (hc : c < N) : kc (c :: K) N = kc K N + 1 := by
  obtain ⟨k, rfl⟩ : ∃ k : Nat, c = k := ⟨c.toNat, by omega⟩
  have hk : k < N := by omega
  unfold kc
  induction N with
  | zero => omega
  | succ N ih =>
    rw [List.range_succ, List.countP_append, List.countP_append, List.countP_singleton, List.countP_singleton]
    by_cases e : k = N
    · subst e
      have h1 : (List.range k).countP (fun i : Nat => decide ((i : Int) ∈ (k : Int) :: K)) = (List.range k).countP (fun i : Nat => decide ((i : Int) ∈ K)) := by
        refine List.countP_congr fun i hi => ?_
        have := List.mem_range.1 hi
        have hne : ¬ (i : Int) = k := by omega
        simp [hne]
      rw [h1]
      simp [hn]
    · have := ih (by omega) (by omega)
      rw [this]
      have hne : ¬ (N : Int) = k := by omega
      simp [hne]; omega
/-- Clean, while it looks at what is kept. -/
structure CleanSt (b mb B : Nat) (S : ArS) (F : Nat → Prop) (K W : List Int) (v : Value) (w : World) : Prop where
  ar : IsAr b S w F
  map : ∃ n, MapOf intV I64 w mb n (keptF K)
  row : Row w 3 1 v W.length (W.map intV)
  d1 : ¬ F mb
  d2 : ∀ q, v.ownBlock = some q → q ≠ mb ∧ B ≤ q
  d3 : B ≤ mb
  i64 : ∀ c ∈ W, I64 c
section
variable {b mb B : Nat} {S : ArS} {F : Nat → Prop} {K W : List Int} {v : Value} {w w' : World}
theorem CleanSt.keep (h : CleanSt b mb B S F K W v w) {G : Nat → Prop} (hk : Keeps G w w') (h1 : ∀ i, F i → ¬ G i) (h2 : ¬ G mb) (h3 : ∀ q, v.ownBlock = some q → ¬ G q) : CleanSt b mb B S F K W v w' := by
  obtain ⟨n, hm⟩ := h.map
  exact { h with
    ar := h.ar.keep hk h1
    map := ⟨n, hm.keep (hk.block mb hm.lt h2)⟩
    row := h.row.keep fun q hq => hk.block q (h.row.lt q hq) (h3 q hq) }
theorem CleanSt.below (h : CleanSt b mb B S F K W v w) (hb : Below w.heap.size w w') : CleanSt b mb B S F K W v w' :=
  h.keep (Keeps.of_below (F := fun _ => False) hb) (fun _ _ h => h) (fun h => h) (fun _ _ h => h)
theorem CleanSt.kept (h : CleanSt b mb B S F K W v w) (N : Nat) : keptN w mb N = kc K N := by
  obtain ⟨n, hm⟩ := h.map
  exact kept_of_map hm N
/-- One more is kept. -/
theorem CleanSt.put (h : CleanSt b mb B S F K W v w) {c : Int} {n : Nat} (hm : MapOf intV I64 w' mb n (updM (keptF K) c (.agg #[]))) (hk : Keeps (fun i => i = mb) w w') : CleanSt b mb B S F (c :: K) W v w' :=
  { h with
    ar := h.ar.keep hk (fun i hi e => h.d1 (by rw [← e]; exact hi))
    map := ⟨n, by rw [← keptF_cons]; exact hm⟩
    row := h.row.keep fun q hq => hk.block q (h.row.lt q hq) (fun e => (h.d2 q hq).1 e) }
/-- Four more are to be looked at. -/
theorem CleanSt.more (h : CleanSt b mb B S F K W v w) {ks : List Int} {v' : Value} {n : Nat} (hn : n = W.length + ks.length) (hr : Row w' 3 1 v' n ((W ++ ks).map intV)) (hg : w.grownBy w' v.ownBlock) (hat : ∀ q, v'.ownBlock = some q → v.ownBlock = some q ∨ q = w.heap.size) (hB : B ≤ w.heap.size) (h64 : ∀ c ∈ ks, I64 c) (hF : ∀ q, v.ownBlock = some q → ¬ F q) : CleanSt b mb B S F K (W ++ ks) v' w' := by
  obtain ⟨nm, hm⟩ := h.map
  have hk : Keeps (fun i => v.ownBlock = some i) w w' := Keeps.grown (Keeps.refl _ w) hg fun g hg _ => hg
  refine ⟨h.ar.keep hk fun i hi e => hF i e hi, ⟨nm, hm.keep (hk.block mb hm.lt fun e => (h.d2 mb e).1 rfl)⟩, by rw [List.length_append, ← hn]; exact hr, h.d1, fun q hq => ?_, h.d3, fun c hc => ?_⟩
  · rcases hat q hq with e | e
    · exact h.d2 q e
    · exact ⟨fun e2 => by have := hm.lt; omega, by omega⟩
  · rcases List.mem_append.1 hc with hc | hc
    · exact h.i64 c hc
    · exact h64 c hc
/-- The last one is taken. -/
theorem CleanSt.pop {c : Int} {a : Option Addr} {n cp : Nat} (h : CleanSt b mb B S F K (W ++ [c]) (.slice a n cp) w) (hn : n = W.length + 1) : CleanSt b mb B S F K W (.slice a W.length cp) w ∧ ∃ g o, a = some ⟨g, o, none⟩ ∧ w.cell? ⟨g, o + W.length, none⟩ = some (.int .i64 c) ∧ g < w.heap.size ∧ (∀ j, w.frozen? ⟨g, j, none⟩ = false) := by
  have hr := h.row
  have hl : (W ++ [c]).length = n := by simp [hn]
  rw [hl] at hr
  have hp := hr.pre (k := W.length) (by omega) (by omega)
  obtain ⟨g, o, rfl, hc, hf, hg⟩ := hr.cells (by omega)
  refine ⟨{ h with row := ?_, i64 := fun d hd => h.i64 d (List.mem_append_left _ hd), d2 := fun q hq => h.d2 q hq }, g, o, rfl, ?_, hg, hf⟩
  · rw [List.map_append, Nat.mul_one, List.take_left' (by simp)] at hp
    exact hp
  · rw [hc W.length (by omega), List.map_append, List.getElem?_append_right (by simp), List.length_map, Nat.sub_self]
    rfl
end
/-! ### Clean's second loop -/
theorem UndoSt.below {b t : Nat} {w : World} {F : Nat → Prop} {Sk : ArS} {lv : Nat} {v : Value} {l : List Nat} {wr w' : World} (h : UndoSt b t w F Sk lv v l wr) (hb : Below wr.heap.size wr w') : UndoSt b t w F Sk lv v l w' := by
  obtain ⟨arr, v1, v3, bm, n, fr, g, vs, hown, h132, hA, hvd⟩ := h.core
  have hbl := lt_of_block hown
  have hown' := (hb.block b hbl).trans hown
  have hVV : Keeps (fun _ => False) (wr.setCell ⟨b, 132 + t, none⟩ (.slice none 0 0)) (w'.setCell ⟨b, 132 + t, none⟩ (.slice none 0 0)) := by
    refine ⟨hb.os, hb.tape, hb.output, by simpa [World.setCell] using hb.size, fun k hk _ => ?_⟩
    by_cases e : k = b
    · subst e
      rw [Joins.block_setCell hown, Joins.block_setCell hown']
    · have hk' : k < wr.heap.size := by simpa [World.setCell] using hk
      rw [Below.heap_setCell _ _ _ _ (by show k ≠ b; exact e), Below.heap_setCell _ _ _ _ (by show k ≠ b; exact e), hb.block k hk']
  exact ⟨⟨arr, v1, v3, bm, n, fr, g, vs, hown', h132, hA.keep hVV (fun _ _ h => h), hvd⟩, h.row.keep fun q hq => hb.block q (h.row.lt q hq), h.keep.below hb, h.add⟩
theorem UndoSt.list {b t : Nat} {w : World} {F : Nat → Prop} {Sk : ArS} {lv : Nat} {v : Value} {l : List Nat} {wr : World} (h : UndoSt b t w F Sk lv v l wr) : ∃ q o c, wr.cell? ⟨b, 1, none⟩ = some (.slice (some ⟨q, o, none⟩) Sk.L.length c) := by
  obtain ⟨arr, v1, v3, bm, n, fr, g, vs, hown, h132, hA, hvd⟩ := h.core
  have hs : arr.size = 197 := by have := hA.size; rwa [Array.size_setIfInBounds] at this
  obtain ⟨q, o, c, hv1, _⟩ := hA.ents
  have h1 := hA.c1
  rw [set_at (by omega), hv1] at h1
  exact ⟨q, o, c, (Joins.cell_of_block hown 1).trans h1⟩
theorem UndoSt.start {b t : Nat} {w : World} {F : Nat → Prop} {S : ArS} (h : IsAr b S w F) (ht : t < 64) : ∃ v, w.cell? ⟨b, 4 + t, none⟩ = some (.int .i64 (countL S.L t)) ∧ UndoSt b t w F (markA S t) (liveL S.L) v (S.add t) w := by
  obtain ⟨arr, v1, v3, bm, n, fr, g, vs, hA⟩ := id h
  have hlen := hA.len
  obtain ⟨v, hv⟩ : ∃ v, vs[t]? = some v := ⟨_, List.getElem?_eq_getElem (by omega)⟩
  have hvr := hA.rows t v hv
  exact ⟨v, (hA.cell (4 + t)).trans (hA.c4 t ht), ⟨⟨arr, v1, v3, bm, n, fr, g, _, hA.own, (hA.c6 t ht).trans hv, hA.marked ht, fun q hq => ⟨fun e => hA.nv hv (by rw [← e]; exact hq), fun e => rows_apart hvr hA.list (by decide) hq e⟩⟩, hvr, Keeps.refl _ _, by rw [markA_add hA.ok ht, if_pos rfl]⟩⟩
end Go.Proofs.Ytdmamecfmfhlmaa
