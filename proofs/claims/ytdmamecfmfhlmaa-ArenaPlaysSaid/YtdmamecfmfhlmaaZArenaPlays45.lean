/-
  What ref.Store's Clean keeps: plain, and in memory; Both arenas do alike: Join, Note, Undo, Clean; plain.
-/
import Derived.Test.YtdmamecfmfhlmaaZArenaPlays39
import Derived.Test.YtdmamecfmfhlmaaZArenaPlaysReNote
import Derived.Test.YtdmamecfmfhlmaaZArenaPlays20
namespace Go.Proofs.Ytdmamecfmfhlmaa
set_option maxRecDepth 100000
open Go.RowKit

/-- A root, or a part of a square that is one. -/
inductive RReach (T : List (Nat × Ent)) (ok : Int → Bool) (rs : List Int) : Int → Prop
  | root {r : Int} : r ∈ rs → ok r = true → RReach T ok rs r
  | kid {i c : Int} {p : Nat × Ent} : RReach T ok rs i → p ∈ T → (p.1 : Int) = i → p.2.k = 0 → c ∈ p.2.parts → RReach T ok rs c
def ClosedAt (K : List Int) (p : Nat × Ent) : Prop := p.2.k = 0 → (p.1 : Int) ∈ K → ∀ c ∈ p.2.parts, c ∈ K
theorem reach_kept {T : List (Nat × Ent)} {ok : Int → Bool} {rs K : List Int} (hr : ∀ r ∈ rs, ok r = true → r ∈ K) (hc : ∀ p ∈ T, ClosedAt K p) {i : Int} (h : RReach T ok rs i) : i ∈ K := by
  induction h with
  | root h1 h2 => exact hr _ h1 h2
  | kid _ hp e hk hcp ih => exact hc _ hp hk (by rw [e]; exact ih) _ hcp
def keptB (K : List Int) : Int → Option Value := fun i => if i ∈ K then some (.bool true) else none
theorem keptB_cons (K : List Int) (c : Int) : updM (keptB K) c (.bool true) = keptB (c :: K) := by
  funext i
  unfold updM keptB
  by_cases e : i = c
  · subst e; simp
  · simp [e]
theorem keptB_same {K : List Int} {c : Int} (h : c ∈ K) : updM (keptB K) c (.bool true) = keptB K := by
  funext i
  unfold updM keptB
  by_cases e : i = c
  · subst e; simp [h]
  · simp [e]
theorem kept_of_mapB {w : World} {mb n : Nat} {K : List Int} (h : MapOf intV I64 w mb n (keptB K)) (N : Nat) : keptN w mb N = kc K N := by
  obtain ⟨es, cl, hb, _, _, h1, h2⟩ := h
  unfold keptN kc
  refine List.countP_congr fun i _ => ?_
  simp only [decide_eq_true_iff]
  constructor
  · rintro ⟨es', cl', hb', e, he, hk⟩
    rw [hb] at hb'
    cases hb'
    obtain ⟨a, _, ha, hf⟩ := h1 e he
    have : a = (i : Int) := int_keyedV.inj _ _ (ha.symm.trans hk)
    subst this
    unfold keptB at hf
    split at hf
    · assumption
    · cases hf
  · intro hi
    obtain ⟨e, he, hk⟩ := h2 (i : Int) (.bool true) (by unfold keptB; rw [if_pos hi])
    exact ⟨es, cl, hb, e, he, hk⟩
/-- What is kept so far, in memory. -/
structure KeepSt (mb kb : Nat) (T : List (Nat × Ent)) (ok : Int → Bool) (rs K : List Int) (w : World) : Prop where
  map : ∃ n, MapOf intV I64 w mb n (keptB K)
  box : w.heap[kb]? = some (.cells #[.map (some mb)] 138 (0, 0))
  all : ∀ i ∈ K, RReach T ok rs i
section
variable {mb kb : Nat} {T : List (Nat × Ent)} {ok : Int → Bool} {rs K : List Int} {w w' : World}
theorem KeepSt.below (h : KeepSt mb kb T ok rs K w) (hb : Below w.heap.size w w') : KeepSt mb kb T ok rs K w' := by
  obtain ⟨n, hm⟩ := h.map
  exact ⟨⟨n, hm.keep (hb.block _ hm.lt)⟩, (hb.block _ (lt_of_block h.box)).trans h.box, h.all⟩
theorem KeepSt.keep (h : KeepSt mb kb T ok rs K w) {G : Nat → Prop} (hk : Keeps G w w') (h1 : ¬ G mb) (h2 : ¬ G kb) : KeepSt mb kb T ok rs K w' := by
  obtain ⟨n, hm⟩ := h.map
  exact ⟨⟨n, hm.keep (hk.block _ hm.lt h1)⟩, (hk.block _ (lt_of_block h.box) h2).trans h.box, h.all⟩
theorem KeepSt.kept (h : KeepSt mb kb T ok rs K w) (N : Nat) : keptN w mb N = kc K N := by
  obtain ⟨n, hm⟩ := h.map
  exact kept_of_mapB hm N
theorem KeepSt.look (h : KeepSt mb kb T ok rs K w) {a : Int} (ha : I64 a) : (Instr.lookup 138 (.map (some mb)) (.int .i64 a) false).run Try.prog w = .ok (.bool (decide (a ∈ K))) w := by
  obtain ⟨n, hm⟩ := h.map
  have hl := MapOf.look int_keyedV (t := 138) (e := 4) (z := .bool false) Try.underlying138 (fun u => by kernel_rfl) hm ha
  unfold intV at hl
  rw [hl]
  unfold keptB
  by_cases e : a ∈ K
  · rw [if_pos e, decide_eq_true e]; rfl
  · rw [if_neg e, decide_eq_false e]; rfl
theorem KeepSt.put (h : KeepSt mb kb T ok rs K w) {c : Int} (hc : I64 c) (hr : RReach T ok rs c) : ∃ W, (Instr.mapUpdate 138 (.map (some mb)) (.int .i64 c) (.bool true)).run Try.prog w = .ok () W ∧ KeepSt mb kb T ok rs (if c ∈ K then K else c :: K) W ∧ Keeps (fun i => i = mb) w W ∧ W.heap.size = w.heap.size := by
  obtain ⟨n, hm⟩ := h.map
  obtain ⟨st, W1', -, -, -, -, hen⟩ := MapOf.entry int_keyedV (t := 138) (e := 4) (z := .bool false) Try.underlying138 (fun u => by kernel_rfl) hm hc
  obtain ⟨W, -, hW, hM, hK, hZ⟩ := hen (.bool true)
  unfold intV at hW
  have hne : kb ≠ mb := fun e => by
    obtain ⟨es, cl, hb, _⟩ := hm
    have := h.box
    rw [e, hb] at this
    cases this
  refine ⟨W, hW, ⟨⟨n + 1, ?_⟩, (hK.block _ (lt_of_block h.box) hne).trans h.box, fun i hi => ?_⟩, hK, hZ⟩
  · by_cases e : c ∈ K
    · rw [if_pos e]; rw [keptB_same e] at hM; exact hM
    · rw [if_neg e]; rw [keptB_cons] at hM; exact hM
  · by_cases e : c ∈ K
    · rw [if_pos e] at hi; exact h.all i hi
    · rw [if_neg e] at hi
      rcases List.mem_cons.1 hi with rfl | hi
      · exact hr
      · exact h.all i hi
end
/-- One look over all things. -/
structure PassSt (mb kb : Nat) (T : List (Nat × Ent)) (ok : Int → Bool) (rs K : List Int) (M : Nat) (Done : Prop) (K' : List Int) (ag : Bool) (w : World) : Prop where
  st : KeepSt mb kb T ok rs K' w
  roots : ∀ r ∈ rs, ok r = true → r ∈ K'
  no : ag = false → K' = K ∧ Done
  yes : ag = true → kc K M < kc K' M
theorem PassSt.below {mb kb : Nat} {T : List (Nat × Ent)} {ok : Int → Bool} {rs K : List Int} {M : Nat} {Done : Prop} {K' : List Int} {ag : Bool} {w w' : World} (h : PassSt mb kb T ok rs K M Done K' ag w) (hb : Below w.heap.size w w') : PassSt mb kb T ok rs K M Done K' ag w' :=
  ⟨h.st.below hb, h.roots, h.no, h.yes⟩
theorem PassSt.more {mb kb : Nat} {T : List (Nat × Ent)} {ok : Int → Bool} {rs K : List Int} {M : Nat} {D D' : Prop} {K' : List Int} {ag : Bool} {w : World} (h : PassSt mb kb T ok rs K M D K' ag w) (hd : K' = K → D → D') : PassSt mb kb T ok rs K M D' K' ag w :=
  ⟨h.st, h.roots, fun e => ⟨(h.no e).1, hd (h.no e).1 (h.no e).2⟩, h.yes⟩
theorem PassSt.le {mb kb : Nat} {T : List (Nat × Ent)} {ok : Int → Bool} {rs K : List Int} {M : Nat} {D : Prop} {K' : List Int} {ag : Bool} {w : World} (h : PassSt mb kb T ok rs K M D K' ag w) : kc K M ≤ kc K' M := by
  cases ag with
  | false => rw [(h.no rfl).1]; exact Nat.le_refl _
  | true => exact Nat.le_of_lt (h.yes rfl)
def boolN : Value → Nat
  | .bool true => 1
  | _ => 0
def cleanF (K : List Int) (p : Nat × Ent) : Bool := decide (p.2.k ≠ 0) || !decide ((p.1 : Int) ∈ K)
set_option maxHeartbeats 2000000 in
theorem cleanSees (p : Nat × Ent) (mb kb : Nat) (T : List (Nat × Ent)) (ok : Int → Bool) (rs K : List Int) (w : World) (h : KeepSt mb kb T ok rs K w) (hp : p.1 < 1000000) :
    Calls Try.prog 94 #[thingV p, .pointer (some ⟨kb, 0, none⟩)] w fun e w' => e = .returned (.bool (cleanF K p)) ∧ Below w.heap.size w w' := by
  obtain ⟨pi, xk, xa, xb, xc, xd, xl, xv, xm⟩ := p
  obtain ⟨X, hX⟩ : ∃ X, X = w.alloc (.cells #[.int .i64 pi, .int .i64 xk, .int .i64 xl, .int .i64 xv, .int .i64 xa, .int .i64 xb, .int .i64 xc, .int .i64 xd, .int .u64 xm] 118) := ⟨_, rfl⟩
  have hbX : Below w.heap.size w X := by rw [hX]; exact (Below.refl _ _).alloc (Nat.le_refl _) _
  have hx0 : X.heap[w.heap.size]? = some (.cells #[.int .i64 pi, .int .i64 xk, .int .i64 xl, .int .i64 xv, .int .i64 xa, .int .i64 xb, .int .i64 xc, .int .i64 xd, .int .u64 xm] 118 (0, 0)) := by rw [hX]; exact blk_last w _ rfl
  have hS := h.below hbX
  simp only at hp
  have hlook := hS.look (a := (pi : Int)) (by unfold I64; omega)
  have d0 : X.cell? ⟨kb, 0, none⟩ = some (.map (some mb)) := Joins.cell_of_block hS.box 0
  have x0 : X.cell? ⟨w.heap.size, 0, none⟩ = some (.int .i64 pi) := Joins.cell_of_block hx0 0
  have x1 : X.cell? ⟨w.heap.size, 1, none⟩ = some (.int .i64 xk) := Joins.cell_of_block hx0 1
  obtain ⟨d, hd⟩ : ∃ d, d = decide ((pi : Int) ∈ K) := ⟨_, rfl⟩
  rw [← hd] at hlook
  have HCF := Lib.hid (show cleanF K (pi, ⟨xk, xa, xb, xc, xd, xl, xv, xm⟩) = (decide (xk ≠ 0) || !d) by rw [hd]; rfl)
  have HX := Lib.hid hX
  have HBX := Lib.hid hbX
  unfold thingV
  simp only
  clear hX hbX hx0 hS h hd
  by_cases hk : xk = 0
  · have g1 : (xk != 0) = false := by simpa using hk
    have HC2 := Lib.hid (show cleanF K (pi, ⟨xk, xa, xb, xc, xd, xl, xv, xm⟩) = !d by rw [HCF.out, decide_eq_false (fun e => e hk), Bool.false_or])
    clear hk
    cases d
    · go_enter Try.func94, Try.ntmps94
      go_upto_region 1 with fail
      rw [← HX.out]
      go_wp2_with fail
      go_ret
      exact ⟨by rw [HC2.out]; rfl, HBX.out⟩
    · go_enter Try.func94, Try.ntmps94
      go_upto_region 1 with fail
      rw [← HX.out]
      go_wp2_with fail
      go_ret
      exact ⟨by rw [HC2.out]; rfl, HBX.out⟩
  · have g1 : (xk != 0) = true := by simpa using hk
    have HC2 := Lib.hid (show cleanF K (pi, ⟨xk, xa, xb, xc, xd, xl, xv, xm⟩) = true by rw [HCF.out, decide_eq_true (show xk ≠ 0 from hk), Bool.true_or])
    clear hk hlook
    go_enter Try.func94, Try.ntmps94
    go_upto_region 1 with fail
    rw [← HX.out]
    go_wp2_with fail
    go_ret
    exact ⟨by rw [HC2.out]; rfl, HBX.out⟩
end Go.Proofs.Ytdmamecfmfhlmaa
namespace Go.Proofs.Ytdmamecfmfhlmaa
set_option maxRecDepth 100000

theorem own_same {S : ArS} {R : RSt} (ok : ArOk S) (h : Sim S R) (t : Nat) (id : Int) : okR R t id = ownsA S.L t id 0 := by
  unfold okR
  rw [h.T, ownR_thL ok]
  by_cases hb : (0 : Int) = 0 ∧ (id = 0 ∨ id = 1)
  · rw [if_pos hb, ownsA_base hb.2]
  · rw [if_neg hb]
    by_cases ho : ownsA S.L t id 0 = true
    · rw [if_pos ho, ho]
    · rw [if_neg ho]
      simpa using ho
theorem lv_same {S : ArS} {R : RSt} (ok : ArOk S) (h : Sim S R) (t : Nat) {id : Int} (ho : ownsA S.L t id 0 = true) : lvR R t id = lvA S.L id := by
  unfold lvR
  rw [h.T, ownR_thL ok]
  by_cases hb : (0 : Int) = 0 ∧ (id = 0 ∨ id = 1)
  · rw [if_pos hb]
    unfold lvA
    rcases hb.2 with rfl | rfl
    · rw [show ((0 : Int)).toNat = 0 from rfl, ok.nil0]; rfl
    · rw [show ((1 : Int)).toNat = 1 from rfl, ok.nil1]; rfl
  · rw [if_neg hb, if_pos ho]
    unfold lvA
    cases atL S.L id.toNat <;> rfl
theorem ownAll_same {S : ArS} {R : RSt} (ok : ArOk S) (h : Sim S R) (t : Nat) (q : Four) : (qL q).all (okR R t) = ownAll S.L t q := by
  unfold qL ownAll
  simp only [List.all_cons, List.all_nil, Bool.and_true, own_same ok h]
theorem lvAll_same {S : ArS} {R : RSt} (ok : ArOk S) (h : Sim S R) (t : Nat) (q : Four) (ho : ownAll S.L t q = true) : (lvsR R t q).all (fitR (lvR R t q.1)) = lvAll S.L q := by
  have ho' := ho
  unfold ownAll at ho'
  simp only [Bool.and_eq_true] at ho'
  obtain ⟨h0, h1, h2, h3⟩ := ho'
  unfold lvsR qL lvAll fitR
  simp only [List.map_cons, List.map_nil, List.all_cons, List.all_nil, Bool.and_true, lv_same ok h t h0, lv_same ok h t h1, lv_same ok h t h2, lv_same ok h t h3]
  rw [Bool.eq_iff_iff]
  simp only [Bool.and_eq_true, decide_eq_true_eq]
  constructor
  · rintro ⟨⟨_, a⟩, ⟨b, _⟩, ⟨c, _⟩, d, _⟩
    exact ⟨a, b, c, d⟩
  · rintro ⟨a, b, c, d⟩
    exact ⟨⟨by trivial, a⟩, ⟨b, by omega⟩, ⟨c, by omega⟩, d, by omega⟩
theorem join_same {S S' : ArS} {R R' : RSt} {t : Int} {q : Four} {r e r' e' : Int} (ok : ArOk S) (h : Sim S R) (hS : JoinR S t q r e S') (hR : JoinRel R t q r' e' R') : r = r' ∧ e = e' ∧ Sim S' R' := by
  unfold JoinR at hS
  unfold JoinRel at hR
  by_cases ht : tenB t = false
  · rw [if_pos ht] at hS hR
    obtain ⟨rfl, rfl, rfl⟩ := hS
    obtain ⟨rfl, rfl, rfl⟩ := hR
    exact ⟨rfl, rfl, h⟩
  · rw [if_neg ht] at hS hR
    rw [ownAll_same ok h] at hR
    by_cases ho : ownAll S.L t.toNat q = false
    · rw [if_pos ho] at hS hR
      obtain ⟨rfl, rfl, rfl⟩ := hS
      obtain ⟨rfl, rfl, rfl⟩ := hR
      exact ⟨rfl, rfl, h⟩
    · rw [if_neg ho] at hS hR
      have ho1 : ownAll S.L t.toNat q = true := by simpa using ho
      rw [lvAll_same ok h t.toNat q ho1] at hR
      by_cases hl : lvAll S.L q = false
      · rw [if_pos hl] at hS hR
        obtain ⟨rfl, rfl, rfl⟩ := hS
        obtain ⟨rfl, rfl, rfl⟩ := hR
        exact ⟨rfl, rfl, h⟩
      · rw [if_neg hl] at hS hR
        have h0 : ownsA S.L t.toNat q.1 0 = true := by
          unfold ownAll at ho1
          simp only [Bool.and_eq_true] at ho1
          exact ho1.1
        rw [lv_same ok h t.toNat h0] at hR
        exact gave_same ok h hS hR
theorem note_same {S S' : ArS} {R R' : RSt} {t sq rl j va e e' : Int} (ok : ArOk S) (h : Sim S R) (hS : NoteR S t sq rl j va e S') (hR : NoteRel R t sq rl j va e' R') : e = e' ∧ Sim S' R' := by
  unfold NoteR at hS
  unfold NoteRel at hR
  by_cases ht : tenB t = false
  · rw [if_pos ht] at hS hR
    obtain ⟨rfl, rfl⟩ := hS
    obtain ⟨rfl, rfl⟩ := hR
    exact ⟨rfl, h⟩
  · rw [if_neg ht] at hS hR
    rw [own_same ok h, own_same ok h] at hR
    by_cases ho : (ownsA S.L t.toNat sq 0 && ownsA S.L t.toNat va 0) = false
    · rw [if_pos ho] at hS hR
      obtain ⟨rfl, rfl⟩ := hS
      obtain ⟨rfl, rfl⟩ := hR
      exact ⟨rfl, h⟩
    · rw [if_neg ho] at hS hR
      have toK : ∀ {i : Nat} {p : Nat × Ent}, R.T[i]? = some p → p.2.key = (1, sq, rl, j, 0) → HasKey S.L (1, sq, rl, j, 0) p.1 p.2 := fun {i p} hp hk => ⟨thL_here (i := i) (by rw [← h.T]; exact hp), hk⟩
      rcases hS with ⟨i, x, hx, hv, rfl, rfl⟩ | ⟨hall, r, hG⟩
      · rcases hR with ⟨i', p, hp, hk, hv', rfl, rfl⟩ | ⟨hall', r', hG'⟩
        · exact ⟨rfl, h⟩
        · exact absurd (hall' (i, x) (by rw [h.T]; exact mem_thL.2 hx.1) hx.2) hv
      · rcases hR with ⟨i', p, hp, hk, hv', rfl, rfl⟩ | ⟨hall', r', hG'⟩
        · exact absurd (hall _ _ (toK hp hk)) hv'
        · obtain ⟨_, h2, h3⟩ := gave_same ok h hG hG'
          exact ⟨h2, h3⟩
theorem undo_same {S : ArS} {R : RSt} (h : Sim S R) (t : Nat) : Sim (undoA S t) (loseR R t (undoF R t)) ∧ countL (undoA S t).L t + lostN R.T t (undoF R t) = countL S.L t :=
  lose_same h t (S.add t) (undoF R t) fun i x _ _ => by
    unfold undoF
    rw [h.sn]
    exact decide_eq_true_iff.symm
/-- What is reached of either side. -/
theorem reach_ref {S : ArS} {R : RSt} (ok : ArOk S) (h : Sim S R) {t : Nat} {rs : List Int} {i : Int} (hr : Reach S.L t rs i) : RReach R.T (okR R t) rs i := by
  induction hr with
  | root h1 _ h3 => exact .root h1 (by rw [own_same ok h]; exact h3)
  | kid hi hx hc h2 ho ih =>
    rename_i i c x
    obtain ⟨x', hx', hk, _⟩ := owns_here hi.two hi.owns
    have e : x' = x := Option.some.inj (hx'.symm.trans hx)
    subst e
    refine .kid ih (p := (i.toNat, x')) ?_ (by have := hi.two; show ((i.toNat : Nat) : Int) = i; omega) hk hc
    rw [h.T]
    exact mem_thL.2 hx
theorem ref_reach {S : ArS} {R : RSt} (ok : ArOk S) (inv : Inv S) (h : Sim S R) {t : Nat} {rs : List Int} {i : Int} (hr : RReach R.T (okR R t) rs i) : i = 0 ∨ i = 1 ∨ Reach S.L t rs i := by
  have split : ∀ c, ownsA S.L t c 0 = true → (2 ≤ c → Reach S.L t rs c) → c = 0 ∨ c = 1 ∨ Reach S.L t rs c := fun c ho hc => by
    rcases owns_iff.1 ho with (h0 | h1) | ⟨h2, _⟩
    · exact .inl h0
    · exact .inr (.inl h1)
    · exact .inr (.inr (hc h2))
  induction hr with
  | root h1 h2 =>
    rw [own_same ok h] at h2
    exact split _ h2 fun hr2 => .root h1 hr2 h2
  | kid hri hp e hk hc ih =>
    rename_i i c p
    rw [h.T] at hp
    obtain ⟨j, x⟩ := p
    have hx := mem_thL.1 hp
    have e : (j : Int) = i := e
    have hk : x.k = 0 := hk
    have hc : c ∈ x.parts := hc
    subst e
    have h2 := two_of ok hx
    have hre : Reach S.L t rs (j : Int) := by
      rcases ih with h0 | h0 | h0
      · omega
      · omega
      · exact h0
    obtain ⟨x', hx', hk', hb'⟩ := owns_here hre.two hre.owns
    rw [Int.toNat_natCast] at hx'
    have e2 : x' = x := Option.some.inj (hx'.symm.trans hx)
    subst e2
    have ho := inv.part t j x' ⟨hx, hk', hb'⟩ c hc
    exact split c ho fun h2c => .kid hre (by rw [Int.toNat_natCast]; exact hx) hc h2c ho
theorem ref_range {S : ArS} {R : RSt} (ok : ArOk S) (inv : Inv S) (h : Sim S R) {t : Nat} {rs : List Int} (i : Int) (hr : RReach R.T (okR R t) rs i) : 0 ≤ i ∧ i < (S.L.length : Int) := by
  have h2 := ok.two
  rcases ref_reach ok inv h hr with rfl | rfl | hr
  · omega
  · omega
  · obtain ⟨x, hx, _⟩ := owns_here hr.two hr.owns
    have := atL_lt hx
    have := hr.two
    omega
theorem clean_same {S : ArS} {R : RSt} (ok : ArOk S) (inv : Inv S) (h : Sim S R) {t : Nat} {rs K K' : List Int} (hK : ∀ i, i ∈ K ↔ Reach S.L t rs i) (hK' : ∀ i, i ∈ K' ↔ RReach R.T (okR R t) rs i) :
    Sim (cleanA S t K) (loseR R t (cleanF K')) ∧ countL (cleanA S t K).L t + lostN R.T t (cleanF K') = countL S.L t :=
  lose_same h t (othersOf S.L.length K) (cleanF K') fun i x hx hb => by
    have h2 := two_of ok hx
    rw [mem_others]
    unfold cleanF
    simp only [Bool.or_eq_true, decide_eq_true_eq, Bool.not_eq_true', decide_eq_false_iff_not]
    constructor
    · rintro ⟨_, _, hn⟩
      by_cases hk : x.k = 0
      · refine .inr fun hi => hn ((hK _).2 ?_)
        rcases ref_reach ok inv h ((hK' _).1 hi) with h0 | h0 | h0
        · omega
        · omega
        · exact h0
      · exact .inl hk
    · intro hn
      refine ⟨h2, atL_lt hx, fun hi => ?_⟩
      have hr := (hK _).1 hi
      obtain ⟨x', hx', hk', _⟩ := owns_here hr.two hr.owns
      rw [Int.toNat_natCast] at hx'
      have e2 : x' = x := Option.some.inj (hx'.symm.trans hx)
      subst e2
      rcases hn with hn | hn
      · exact hn hk'
      · exact hn ((hK' _).2 (reach_ref ok h hr))
/-- The document's arena is as it should be. -/
theorem good_of {S : ArS} {R : RSt} (ok : ArOk S) (hg : ∀ i x, atL S.L i = some x → GoodE x) (h : Sim S R) : ReGood R := by
  refine ⟨by rw [h.room]; exact ok.room, fun i j p q hp hq hk => ?_, fun p hp => ?_, fun p hp => ?_, fun t => ?_⟩
  · rw [h.T] at hp hq
    have e := ok.uniq p.1 q.1 p.2 q.2 (thL_here hp) (thL_here hq) hk
    rw [(thL_at hp).1, (thL_at hq).1, e]
  · rw [h.T] at hp
    exact hg p.1 p.2 (mem_thL.1 hp)
  · rw [h.T] at hp
    exact ok.mask p.1 p.2 (mem_thL.1 hp)
  · rw [h.sn]
    by_cases ht : t < 64
    · have hl : t < S.added.length := by rw [ok.added]; exact ht
      have h1 := ok.few t (S.add t) (by rw [ArS.add, List.getD_eq_getElem?_getD, List.getElem?_eq_getElem hl]; rfl)
      have h2 := countL_le S.L t
      have h3 := ok.live
      have h4 := ok.room
      omega
    · have : S.add t = [] := by
        unfold ArS.add
        rw [List.getD_eq_getElem?_getD, List.getElem?_eq_none (by rw [ok.added]; omega)]
        rfl
      rw [this]
      exact Nat.zero_le _
theorem ids_of {S : ArS} {R : RSt} (ok : ArOk S) (h : Sim S R) : ∀ p ∈ R.T, p.1 < 1000000 := fun p hp => by
  rw [h.T] at hp
  have h1 := atL_lt (mem_thL.1 (show (p.1, p.2) ∈ thL S.L from hp))
  have := ok.long
  have := ok.room
  omega
end Go.Proofs.Ytdmamecfmfhlmaa
