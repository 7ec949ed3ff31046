/-
  For every number of tenants and list of deeds, turns answer what the document's queue answers, deed by deed.
-/
import Derived.Test.YtghginiipknoeaaTurnsPop
import Derived.Test.YtghginiipknoeaaQueuePop
import Derived.Deep.RegionHeld3
namespace Go.Proofs.Ytghginiipknoeaa
open Go.RowKit

/-- Both in one memory, apart; block H (which holds the deed) and all below B stay as they were in X. -/
def Duo (b1 b2 B H : Nat) (X : World) (st : TurnSt) (q : QueueSt) (L : Nat) (w : World) : Prop :=
  ∃ F G, IsTurns b1 st w F ∧ IsQueue b2 q L w G ∧ (∀ i, F i → ¬ G i) ∧ (∀ i, F i ∨ G i → B ≤ i ∧ i ≠ H) ∧ Keeps (fun i => B ≤ i ∧ i ≠ H) X w ∧ H < X.heap.size ∧ B ≤ X.heap.size
def Pair (b1 b2 B : Nat) (st : TurnSt) (q : QueueSt) (L : Nat) (w : World) : Prop :=
  ∃ F G, IsTurns b1 st w F ∧ IsQueue b2 q L w G ∧ (∀ i, F i → ¬ G i) ∧ (∀ i, F i ∨ G i → B ≤ i)
section
variable {b1 b2 B H : Nat} {X w : World} {st : TurnSt} {q : QueueSt} {L : Nat}
theorem IsTurns.lt {b : Nat} {F : Nat → Prop} (h : IsTurns b st w F) : ∀ i, F i → i < w.heap.size := by obtain ⟨W, vs, h⟩ := h; exact h.lt
theorem IsQueue.lt {b : Nat} {F : Nat → Prop} (h : IsQueue b q L w F) : ∀ i, F i → i < w.heap.size := by obtain ⟨v, h⟩ := h; exact h.lt
theorem Duo.drew (h : Duo b1 b2 B H X st q L w) : Duo b1 b2 B H X st q L w.drew := by
  obtain ⟨F, G, h1, h2, h3, h4, h5, h6⟩ := h
  exact ⟨F, G, h1.drew, h2.drew, h3, h4, h5.drew, h6⟩
theorem duo_turned {v : Value} {st' : TurnSt} {w' : World} {e : Ending} {F G : Nat → Prop} (h2 : IsQueue b2 q L w G) (h3 : ∀ i, F i → ¬ G i) (h4 : ∀ i, F i ∨ G i → B ≤ i ∧ i ≠ H) (h5' : Keeps (fun i => B ≤ i ∧ i ≠ H) X w ∧ H < X.heap.size ∧ B ≤ X.heap.size) (hm : Mut w F (IsTurns b1 st') v e w') : e = .returned v ∧ Duo b1 b2 B H X st' q L w' := by
  obtain ⟨h5, h6, h7⟩ := h5'
  obtain ⟨he, F', m1, m2, m3⟩ := hm
  refine ⟨he, F', G, m1, h2.keep m3 (fun i hg hf => h3 i hf hg), fun i hf hg => ?_, fun i hi => ?_, h5.trans m3 (fun i _ hf => h4 i (.inl hf)), h6, h7⟩
  · rcases m2 i hf with hf | hf
    · exact h3 i hf hg
    · have := h2.lt i hg; omega
  · rcases hi with hf | hg
    · rcases m2 i hf with hf | hf
      · exact h4 i (.inl hf)
      · have := h5.size; exact ⟨by omega, by omega⟩
    · exact h4 i (.inr hg)
theorem duo_queued {v : Value} {q' : QueueSt} {L' : Nat} {w' : World} {e : Ending} {F G : Nat → Prop} (h1 : IsTurns b1 st w F) (h3 : ∀ i, F i → ¬ G i) (h4 : ∀ i, F i ∨ G i → B ≤ i ∧ i ≠ H) (h5' : Keeps (fun i => B ≤ i ∧ i ≠ H) X w ∧ H < X.heap.size ∧ B ≤ X.heap.size) (hm : Mut w G (IsQueue b2 q' L') v e w') : e = .returned v ∧ Duo b1 b2 B H X st q' L' w' := by
  obtain ⟨h5, h6, h7⟩ := h5'
  obtain ⟨he, G', m1, m2, m3⟩ := hm
  refine ⟨he, F, G', h1.keep m3 (fun i hf hg => h3 i hf hg), m1, fun i hf hg => ?_, fun i hi => ?_, h5.trans m3 (fun i _ hf => h4 i (.inr hf)), h6, h7⟩
  · rcases m2 i hg with hg | hg
    · exact h3 i hf hg
    · have := h1.lt i hf; omega
  · rcases hi with hf | hg
    · exact h4 i (.inl hf)
    · rcases m2 i hg with hg | hg
      · exact h4 i (.inr hg)
      · have := h5.size; exact ⟨by omega, by omega⟩
theorem Duo.below {w' : World} (h : Duo b1 b2 B H X st q L w) (hb : Below w.heap.size w w') : Duo b1 b2 B H X st q L w' := by
  obtain ⟨F, G, h1, h2, h3, h4, h5, h6, h7⟩ := h
  have k := Keeps.of_below (F := fun _ => False) hb
  exact ⟨F, G, h1.keep k (fun _ _ h => h), h2.keep k (fun _ _ h => h), h3, h4, h5.below hb, h6, h7⟩
theorem Duo.kept (h : Duo b1 b2 B H X st q L w) : w.heap[H]? = X.heap[H]? := by
  obtain ⟨F, G, h1, h2, h3, h4, h5, h6, h7⟩ := h
  exact h5.block H h6 (fun h => h.2 rfl)
theorem Duo.low (h : Duo b1 b2 B H X st q L w) : Below B X w := by
  obtain ⟨F, G, h1, h2, h3, h4, h5, h6, h7⟩ := h
  exact h5.toBelow (fun i hi => hi.1) h7
theorem Duo.pair (h : Duo b1 b2 B H X st q L w) : Pair b1 b2 B st q L w := by
  obtain ⟨F, G, h1, h2, h3, h4, h5, h6, h7⟩ := h
  exact ⟨F, G, h1, h2, h3, fun i hi => (h4 i hi).1⟩
theorem Pair.duo {o : Obj} (h : Pair b1 b2 B st q L w) (hB : B ≤ w.heap.size) : Duo b1 b2 B w.heap.size (w.alloc o) st q L (w.alloc o) := by
  obtain ⟨F, G, h1, h2, h3, h4⟩ := h
  have k := Keeps.of_below (F := fun _ => False) ((Below.refl w.heap.size w).alloc (Nat.le_refl _) o)
  refine ⟨F, G, h1.keep k (fun _ _ h => h), h2.keep k (fun _ _ h => h), h3, fun i hi => ⟨h4 i hi, ?_⟩, Keeps.refl _ _, by simp, by simp; omega⟩
  rcases hi with hi | hi
  · have := h1.lt i hi; omega
  · have := h2.lt i hi; omega
theorem Pair.more {L' : Nat} (h : Pair b1 b2 B st q L w) (hL : L ≤ L') : Pair b1 b2 B st q L' w := by
  obtain ⟨F, G, h1, h2, h3, h4⟩ := h
  exact ⟨F, G, h1, h2.more hL, h3, h4⟩
end

theorem duo_push {b1 b2 B H : Nat} {X w : World} {st st' : TurnSt} {q : QueueSt} {L : Nat} {t r : Int} {x : ByteArray} (h : Duo b1 b2 B H X st q L w) (hst : (r, st') = turnPush st t x) :
    Calls Try.prog 41 #[.pointer (some ⟨b1, 0, none⟩), .int .i64 t, .string x] w fun e w' => e = .returned (.int .i64 r) ∧ Duo b1 b2 B H X st' q L w' := by
  obtain ⟨F, G, h1, h2, h3, h4, h5⟩ := h
  refine (push_any b1 st F t x w h1).mono fun e w' hm => ?_
  rw [← hst] at hm
  exact duo_turned h2 h3 h4 h5 hm
theorem duo_qpush {b1 b2 B H : Nat} {X w : World} {st : TurnSt} {q q' : QueueSt} {L : Nat} {t r : Int} {x : ByteArray} (h : Duo b1 b2 B H X st q L w) (hL : L ≤ 1000000) (hst : (r, q') = queuePush q t x) :
    Calls Try.prog 45 #[.pointer (some ⟨b2, 0, none⟩), .int .i64 t, .string x] w fun e w' => e = .returned (.int .i64 r) ∧ Duo b1 b2 B H X st q' (L + 1) w' := by
  obtain ⟨F, G, h1, h2, h3, h4, h5⟩ := h
  refine (qpush_any b2 q L G t x w h2 hL).mono fun e w' hm => ?_
  rw [← hst] at hm
  exact duo_queued h1 h3 h4 h5 hm
theorem duo_pop {b1 b2 B H : Nat} {X w : World} {st st' : TurnSt} {q : QueueSt} {L : Nat} {a : Int} {x : ByteArray} {ok : Bool} (h : Duo b1 b2 B H X st q L w) (hst : ((a, x, ok), st') = turnPop st) :
    Calls Try.prog 40 #[.pointer (some ⟨b1, 0, none⟩)] w fun e w' => e = .returned (.tuple #[.int .i64 a, .string x, .bool ok]) ∧ Duo b1 b2 B H X st' q L w' := by
  obtain ⟨F, G, h1, h2, h3, h4, h5⟩ := h
  refine (pop_any b1 st F w h1).mono fun e w' hm => ?_
  rw [← hst] at hm
  exact duo_turned h2 h3 h4 h5 hm
theorem duo_qpop {b1 b2 B H : Nat} {X w : World} {st : TurnSt} {q q' : QueueSt} {L : Nat} {a : Int} {x : ByteArray} {ok : Bool} (h : Duo b1 b2 B H X st q L w) (hL : L ≤ 1000000) (hst : ((a, x, ok), q') = queuePop q) :
    Calls Try.prog 46 #[.pointer (some ⟨b2, 0, none⟩)] w fun e w' => e = .returned (.tuple #[.int .i64 a, .string x, .bool ok]) ∧ Duo b1 b2 B H X st q' L w' := by
  obtain ⟨F, G, h1, h2, h3, h4, h5⟩ := h
  refine (qpop_any b2 q L G w h2 hL).mono fun e w' hm => ?_
  rw [← hst] at hm
  exact duo_queued h1 h3 h4 h5 hm
theorem duo_waits {b1 b2 B H : Nat} {X w : World} {st : TurnSt} {q : QueueSt} {L : Nat} {t r : Int} (h : Duo b1 b2 B H X st q L w) (hr : r = turnWaits st t) :
    Calls Try.prog 42 #[.pointer (some ⟨b1, 0, none⟩), .int .i64 t] w fun e w' => e = .returned (.int .i64 r) ∧ Duo b1 b2 B H X st q L w' := by
  have h' := h
  obtain ⟨F, G, h1, h2, h3, h4, h5⟩ := h
  refine (waits_any b1 st F t w h1).mono fun e w' hm => ?_
  obtain ⟨rfl, rfl⟩ := hm
  rw [hr]
  exact ⟨rfl, h'⟩
theorem duo_qwaits {b1 b2 B H : Nat} {X w : World} {st : TurnSt} {q : QueueSt} {L : Nat} {t r : Int} (h : Duo b1 b2 B H X st q L w) (hL : L ≤ 1000000) (hr : r = queueWaits q t) :
    Calls Try.prog 47 #[.pointer (some ⟨b2, 0, none⟩), .int .i64 t] w fun e w' => e = .returned (.int .i64 r) ∧ Duo b1 b2 B H X st q L w' := by
  have h' := h
  obtain ⟨F, G, h1, h2, h3, h4, h5⟩ := h
  refine (qwaits_any b2 q L G t w h2 hL).mono fun e w' hm => ?_
  obtain ⟨rfl, hb⟩ := hm
  rw [hr]
  exact ⟨rfl, h'.below hb⟩

set_option maxRecDepth 100000 in
set_option maxHeartbeats 2000000 in
theorem law_play (n : Int) (ks : List PassD) (a : Option Addr) (cap : Nat) (w : World) (hs : Sl w 3 32 a ks.length cap (ks.flatMap encPass)) :
    Calls Try.prog 14 #[.int .i64 n, .slice a ks.length cap] w fun e w' => e = .returned (.bool true) ∧ Below w.heap.size w w' := by
  by_cases hn : n < 1 ∨ 64 < n
  · have H1 : ∀ w, Calls Try.prog 43 #[.int .i64 n] w fun e w' => e = .returned (.tuple #[.pointer none, .int .i64 3]) ∧ w = w' := fun w => (new_any n w).mono fun e w' h => by unfold NewTurns at h; rwa [if_pos hn] at h
    have H2 : ∀ w, Calls Try.prog 44 #[.int .i64 n] w fun e w' => e = .returned (.tuple #[.pointer none, .int .i64 3]) ∧ w = w' := fun w => (newQueue_any n w).mono fun e w' h => by unfold NewQueue at h; rwa [if_pos hn] at h
    have G1 := Lib.hid H1
    have G2 := Lib.hid H2
    clear H1 H2 hn
    go_enter Try.func14, Try.ntmps14
    go_wp2_with fail
    refine (G1.out _).mono ?_
    rintro e w1 ⟨rfl, rfl⟩
    go_wp2_with fail
    refine (G2.out _).mono ?_
    rintro e w1 ⟨rfl, rfl⟩
    go_wp2_with fail
    go_ret
    exact ⟨rfl, Below.refl _ _⟩
  · obtain ⟨n0, rfl⟩ := Int.eq_ofNat_of_zero_le (show 0 ≤ n by omega)
    have H1 : ∀ w, Calls Try.prog 43 #[.int .i64 n0] w fun e w' => ∃ b F, e = .returned (.tuple #[.pointer (some ⟨b, 0, none⟩), .int .i64 0]) ∧ IsTurns b ⟨List.replicate n0 [], 0⟩ w' F ∧ (∀ i, F i → w.heap.size ≤ i) ∧ Below w.heap.size w w' := fun w => (new_any n0 w).mono fun e w' h => by unfold NewTurns at h; rwa [if_neg hn, Int.toNat_natCast] at h
    have H2 : ∀ w, Calls Try.prog 44 #[.int .i64 n0] w fun e w' => ∃ b F, e = .returned (.tuple #[.pointer (some ⟨b, 0, none⟩), .int .i64 0]) ∧ IsQueue b ⟨n0, 0, []⟩ 0 w' F ∧ (∀ i, F i → w.heap.size ≤ i) ∧ Below w.heap.size w w' := fun w => (newQueue_any n0 w).mono fun e w' h => by unfold NewQueue at h; rwa [if_neg hn, Int.toNat_natCast] at h
    have hsim := sim_new n0 (by omega)
    have G1 := Lib.hid H1
    have G2 := Lib.hid H2
    have GS := Lib.hid hsim
    have hwide := hs.wide
    clear H1 H2 hn hsim
    go_enter Try.func14, Try.ntmps14
    go_wp2_with fail
    refine (G1.out _).mono ?_
    rintro e w1 ⟨b1, F, rfl, ht, hF, hb1⟩
    go_wp2_with fail
    refine (G2.out _).mono ?_
    rintro e w2 ⟨b2, G, rfl, hq, hG, hb2⟩
    have ht2 := ht.keep (Keeps.of_below (F := fun _ => False) hb2) (fun _ _ h => h)
    have z1 := hb1.size
    have z2 := hb2.size
    have hdis : ∀ i, F i → ¬ G i := fun i hf hg => by have := ht.lt i hf; have := hG i hg; omega
    have hlow : ∀ i, F i ∨ G i → w.heap.size ≤ i := fun i hi => by rcases hi with hi | hi; exact hF i hi; have := hG i hi; omega
    have HPA := Lib.hid (show Pair b1 b2 w.heap.size _ _ 0 w2 from ⟨F, G, ht2, hq, hdis, hlow⟩)
    have hB2 : Below w.heap.size w w2 := hb1.trans (hb2.mono z1)
    clear ht ht2 hq hdis hlow hF hG
    obtain ⟨p, hp⟩ : ∃ p, p = ks.length := ⟨_, rfl⟩
    rw [← hp] at hs hwide
    rw [← hp]
    have HP := Lib.hid hp
    clear hp
    go_wp2_with fail
    go_loopw [9] (fun i wr => ∃ (k : Nat) (st : TurnSt) (q : QueueSt), i = .int .i64 k ∧ k ≤ p ∧ k ≤ 300 ∧ TurnSim st q ∧ Pair b1 b2 w.heap.size st q k wr ∧ Below w.heap.size w wr) (fun i _ => p - (intOf i).toNat)
    case atStart => exact ⟨0, _, _, rfl, Nat.zero_le _, by omega, GS.out, HPA.out, hB2⟩
    case round =>
      obtain ⟨k, st, q, rfl, hk, hk3, hsim, hpair, hB⟩ := hrel
      have HSIM := Lib.hid hsim
      have HPAIR := Lib.hid hpair
      clear hsim hpair
      by_cases hlt : k < p ∧ k < 300
      · obtain ⟨hlt1, hlt2⟩ := hlt
        obtain ⟨g, o, rfl, hrow⟩ := hs.row (by omega)
        have hgl := hs.lt (by omega) (by omega)
        have hkl : k < ks.length := by have := HP.out; omega
        obtain ⟨d, hd⟩ : ∃ d, ks[k]? = some d := ⟨ks[k], List.getElem?_eq_getElem hkl⟩
        have g0 := hrow _ _ (flat_at (k := 3) (enc := encPass) (by omega) (fun _ => rfl) ks k 0 d hd (by omega))
        have g1 := hrow _ _ (flat_at (k := 3) (enc := encPass) (by omega) (fun _ => rfl) ks k 1 d hd (by omega))
        have g2 := hrow _ _ (flat_at (k := 3) (enc := encPass) (by omega) (fun _ => rfl) ks k 2 d hd (by omega))
        have e0 : wr.cell? ⟨g, o + k * 3, none⟩ = some (.int .i64 d.kind) := by rw [hB.cell hgl]; rw [Nat.add_zero] at g0; exact g0
        have e1 : wr.cell? ⟨g, o + k * 3 + 1, none⟩ = some (.int .i64 d.tenant) := by rw [hB.cell hgl]; rw [← Nat.add_assoc] at g1; exact g1
        have e2 : wr.cell? ⟨g, o + k * 3 + 2, none⟩ = some (.string d.text) := by rw [hB.cell hgl]; rw [← Nat.add_assoc] at g2; exact g2
        obtain ⟨kd, tn, tx⟩ := d
        dsimp only at e0 e1 e2
        clear g0 g1 g2 hrow hd
        have i1 : (k : Int) < (p : Int) := by omega
        have i2 : (k : Int) < 300 := by omega
        have i3 : (0 : Int) ≤ (k : Int) := by omega
        have hz := hB.size
        have hDuo : Duo b1 b2 w.heap.size wr.heap.size (wr.alloc (.cells #[.int .i64 kd, .int .i64 tn, .string tx] 73)) st q k (wr.alloc (.cells #[.int .i64 kd, .int .i64 tn, .string tx] 73)) := HPAIR.out.duo hz
        have hXl : ∀ st q L w', Duo b1 b2 w.heap.size wr.heap.size (wr.alloc (.cells #[.int .i64 kd, .int .i64 tn, .string tx] 73)) st q L w' → w'.cell? ⟨wr.heap.size, 1, none⟩ = some (.int .i64 tn) ∧ w'.cell? ⟨wr.heap.size, 2, none⟩ = some (.string tx) := fun st q L w' h => by
          have hb := h.kept.trans (blk_last wr _ rfl)
          exact ⟨by rw [Joins.cell_of_block hb]; rfl, by rw [Joins.cell_of_block hb]; rfl⟩
        have HDUO := Lib.hid hDuo
        have HK := Lib.hid hXl
        clear hDuo hXl
        by_cases k1 : kd = 1
        · subst k1
          obtain ⟨hsp1, hsp2⟩ := sim_push HSIM.out tn tx
          obtain ⟨⟨r, st'⟩, hst⟩ : ∃ s, s = turnPush st tn tx := ⟨_, rfl⟩
          obtain ⟨⟨r', q'⟩, hqt⟩ : ∃ s, s = queuePush q tn tx := ⟨_, rfl⟩
          rw [← hst, ← hqt] at hsp1 hsp2
          dsimp only at hsp1 hsp2
          subst hsp1
          have hCT := fun (w' : World) (q : QueueSt) (L : Nat) (h : Duo b1 b2 w.heap.size wr.heap.size (wr.alloc (.cells #[.int .i64 1, .int .i64 tn, .string tx] 73)) st q L w') => duo_push (b1 := b1) (t := tn) (x := tx) h hst
          have hCQ := fun (w' : World) (st : TurnSt) (h : Duo b1 b2 w.heap.size wr.heap.size (wr.alloc (.cells #[.int .i64 1, .int .i64 tn, .string tx] 73)) st q k w') => duo_qpush (b1 := b1) (t := tn) (x := tx) h (by omega) hqt
          have CT := Lib.hid hCT
          have CQ := Lib.hid hCQ
          have HS2 := Lib.hid hsp2
          clear hCT hCQ hsp2 hst hqt
          go_wp2_with fail
          obtain ⟨X, hX⟩ : ∃ X, X = wr.alloc (.cells #[.int .i64 1, .int .i64 tn, .string tx] 73) := ⟨_, rfl⟩
          have hBX : Below w.heap.size w X := by rw [hX]; exact hB.alloc hz _
          rw [← hX] at HDUO HK CT CQ ⊢
          have hdd := HDUO.out.drew
          clear hX
          go_region_held3 (fun w' => w'.cell? ⟨wr.heap.size, 1, none⟩ = some (.int .i64 tn) ∧ w'.cell? ⟨wr.heap.size, 2, none⟩ = some (.string tx)) (first | exact HK.out _ _ _ _ (by assumption)) ((first | (go_at_call 41; refine (CT.out _ _ _ (by assumption)).mono ?_; rintro e w3 ⟨rfl, hd3⟩) | (go_at_call 45; refine (CQ.out _ _ (by assumption)).mono ?_; rintro e w4 ⟨rfl, hd4⟩)))
          all_goals
            go_wp2_with fail
            refine ⟨⟨k + 1, st', q', by go_num, by omega, by omega, HS2.out, (by first | exact hd4.pair | exact hd3.pair), hBX.trans (by first | exact hd4.low | exact hd3.low)⟩, by simp [intOf]; omega⟩
        · by_cases k2 : kd = 2
          · subst k2
            obtain ⟨hsp1, hsp2⟩ := sim_pop HSIM.out
            obtain ⟨⟨⟨pa, px, pk⟩, st'⟩, hst⟩ : ∃ s, s = turnPop st := ⟨_, rfl⟩
            obtain ⟨⟨pr, q'⟩, hqt⟩ : ∃ s, s = queuePop q := ⟨_, rfl⟩
            rw [← hst, ← hqt] at hsp1 hsp2
            dsimp only at hsp1 hsp2
            subst hsp1
            have HST := Lib.hid hst
            have HQT := Lib.hid hqt
            have HS2 := Lib.hid hsp2
            clear hsp2 hst hqt
            go_wp2_with fail
            obtain ⟨X, hX⟩ : ∃ X, X = wr.alloc (.cells #[.int .i64 2, .int .i64 tn, .string tx] 73) := ⟨_, rfl⟩
            have hBX : Below w.heap.size w X := by rw [hX]; exact hB.alloc hz _
            rw [← hX] at HDUO HK ⊢
            clear hX
            refine (duo_pop HDUO.out HST.out).mono ?_
            rintro e w3 ⟨rfl, hd3⟩
            go_wp2_with fail
            refine (duo_qpop hd3 (by omega) HQT.out).mono ?_
            rintro e w4 ⟨rfl, hd4⟩
            go_wp2_with fail
            refine ⟨⟨k + 1, st', q', by go_num, by omega, by omega, HS2.out, hd4.pair.more (Nat.le_succ _), hBX.trans hd4.low⟩, by simp [intOf]; omega⟩
          · have hw := queueWaits_at HSIM.out tn
            obtain ⟨r, hr⟩ : ∃ r, r = turnWaits st tn := ⟨_, rfl⟩
            rw [← hr] at hw
            have hCT := fun (w' : World) (h : Duo b1 b2 w.heap.size wr.heap.size (wr.alloc (.cells #[.int .i64 kd, .int .i64 tn, .string tx] 73)) st q k w') => duo_waits (b1 := b1) (t := tn) h hr
            have hCQ := fun (w' : World) (h : Duo b1 b2 w.heap.size wr.heap.size (wr.alloc (.cells #[.int .i64 kd, .int .i64 tn, .string tx] 73)) st q k w') => duo_qwaits (b1 := b1) (t := tn) h (by omega) hw.symm
            have CT := Lib.hid hCT
            have CQ := Lib.hid hCQ
            clear hCT hCQ hr hw
            go_wp2_with fail
            obtain ⟨X, hX⟩ : ∃ X, X = wr.alloc (.cells #[.int .i64 kd, .int .i64 tn, .string tx] 73) := ⟨_, rfl⟩
            have hBX : Below w.heap.size w X := by rw [hX]; exact hB.alloc hz _
            rw [← hX] at HDUO HK CT CQ ⊢
            have hdd := HDUO.out.drew
            clear hX
            go_region_held3 (fun w' => w'.cell? ⟨wr.heap.size, 1, none⟩ = some (.int .i64 tn) ∧ w'.cell? ⟨wr.heap.size, 2, none⟩ = some (.string tx)) (first | exact HK.out _ _ _ _ (by assumption)) ((first | (go_at_call 42; refine (CT.out _ (by assumption)).mono ?_; rintro e w3 ⟨rfl, hd3⟩) | (go_at_call 47; refine (CQ.out _ (by assumption)).mono ?_; rintro e w4 ⟨rfl, hd4⟩)))
            all_goals
              go_wp2_with fail
              refine ⟨⟨k + 1, st, q, by go_num, by omega, by omega, HSIM.out, (by first | exact hd4.pair.more (Nat.le_succ _) | exact hd3.pair.more (Nat.le_succ _)), hBX.trans (by first | exact hd4.low | exact hd3.low)⟩, by simp [intOf]; omega⟩
      · rcases (show p ≤ k ∨ (k < p ∧ 300 ≤ k) by omega) with h | ⟨h, h'⟩
        · go_wp2_with fail
          go_ret
          exact ⟨rfl, hB⟩
        · have h2 : (k : Int) < (p : Int) := by omega
          have h3 : (300 : Int) ≤ (k : Int) := by omega
          go_wp2_with fail
          go_ret
          exact ⟨rfl, hB⟩
section
open Go.ChangeShapes Go.WideShapes Go.ChangeAt
set_option maxRecDepth 100000 in
theorem lifted_turnsPlay (os : Os) (started : os.Started) (H : Type) (enc : TypeId × Value → H)
    (walk : ∀ (W : World) (v0 : Value) (v1 : Value), Is_int W v0 → Is_passes W v1 → Calls Try.prog 14 #[v0, v1] W fun e w' => e = .returned (.bool true) ∧ Below W.heap.size W w') :
    ReturnsInHanded {} Try.checked os 14 .any (Rows.turnsPlaySpec.pre6 enc Try.prog Try.f14 Rows.turnsPlayRow.domain false) (Rows.turnsPlaySpec.post enc Try.prog Try.f14 false true false false) := by
  refine returnsInHanded_of_change_sized (C := Try.checked) own started (by kernel_rfl) Try.func14
    (ChangeSpec.witness6 (enc := enc) (C := Try.checked) false ⟨#[], #[.int .i64 0, .slice none 0 0], []⟩ 8 (by kernel_rfl) (by kernel_rfl) (by kernel_rfl) (by kernel_rfl)) ?_
  intro W base args ds gs before hval0 hW hcnd hsz0 _
  have hval : ∀ (j : Nat) t v, Try.f14.params[j]? = some t → args[j]? = some v → Value.okWide Try.prog W .any base t v := hval0
  have hW' := hW
  obtain ⟨p, q, hA0, hV, rfl, hfz, hnd⟩ := hW
  have hA : DataW.TrodAll enc Try.prog W 0 (fun _ => true) true Try.f14.params.toList args.toList ds p := hA0
  rw [Try.params14] at hA hval
  obtain ⟨rfl, rfl⟩ := trodVars_none hV
  have hB := hA
  obtain ⟨v0, vs0, d0, ds0, p0, q0, hargs, rfl, rfl, h0, r0⟩ := trodAll_cons hA
  obtain ⟨v1, vs1, d1, ds1, p1, q1, rfl, rfl, rfl, h1, r1⟩ := trodAll_cons r0
  obtain ⟨rfl, rfl, rfl⟩ := trodAll_nil r1
  obtain rfl : args = #[v0, v1] := by cases args; simp_all
  have hsz : (DataW.weightsEach Try.prog [3, 66] [d0, d1]).all (· ≤ reachBytes) = true := hsz0
  have i0 := open_int (hval 0 3 v0 rfl rfl) h0 (weights_le hsz 0 rfl rfl)
  have i1 := open_passes (hval 1 66 v1 rfl rfl) h1 (weights_le hsz 1 rfl rfl)
  refine (walk W v0 v1 i0 i1).mono fun e W' ⟨he, bel⟩ => ?_
  subst he
  exact ⟨_, rfl, _, _, _, [], _, [], hW', trodAll_mk1 (shut_bool Try.underlying4 _), trodAll_below laidOut (by kernel_rfl) hB bel, rfl, bel.frame _, fun h => by cases h⟩

theorem over_turnsPlay (walk : ∀ (W : World) (v0 : Value) (v1 : Value), Is_int W v0 → Is_passes W v1 → Calls Try.prog 14 #[v0, v1] W fun e w' => e = .returned (.bool true) ∧ Below W.heap.size W w') :
    Rows.turnsPlayRow.holds Try.pinned (OpenSpec.ofChange Rows.turnsPlaySpec) :=
  OpenClaim.holds_of_wide 14 Try.f14 rfl rfl rfl rfl rfl rfl rfl ⟨rfl, rfl, rfl, rfl, rfl⟩ rfl rfl rfl rfl rfl (by kernel_rfl) Try.func14 (by kernel_rfl)
    (of_decide_eq_true (by kernel_rfl)) (by unfold Func.isWrapper; first | (rw [if_pos (by decide +kernel)]; kernel_rfl) | (rw [if_neg (by decide +kernel)]; exact ⟨rfl, rfl⟩))
    (fun os started H enc _ => lifted_turnsPlay os started H enc walk)
end
theorem turnsPlay_proved : Rows.TurnsPlaySaid := over_turnsPlay fun W _ _ ⟨n, e0, _⟩ ⟨ks, ⟨a, cap, e1, hs⟩, _⟩ => by
  subst e0; subst e1
  exact law_play n ks a cap W hs
end Go.Proofs.Ytghginiipknoeaa
