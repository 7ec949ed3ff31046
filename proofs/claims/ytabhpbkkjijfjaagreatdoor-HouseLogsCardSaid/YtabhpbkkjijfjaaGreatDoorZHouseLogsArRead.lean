/-
  What reads an arena: Level, Kids, Count, Live, Recall.
-/
import Derived.Test.YtabhpbkkjijfjaaGreatDoorZHouseLogsArOwn
namespace Go.Proofs.YtabhpbkkjijfjaaGreatDoor
set_option maxRecDepth 100000
open Go.RowKit

def tenB (t : Int) : Bool := decide (0 ≤ t) && decide (t < 64)
theorem tenB_in {t : Nat} (h : t < 64) : tenB t = true := by rw [tenB, decide_eq_true (by omega), decide_eq_true (by omega)]; rfl
theorem tenB_out {t : Int} (h : t < 0 ∨ 64 ≤ t) : tenB t = false := by
  rcases h with h | h
  · rw [tenB, decide_eq_false (by omega)]; rfl
  · rw [tenB, decide_eq_false (p := t < 64) (by omega)]; simp
theorem ten_cases (t : Int) : (∃ k : Nat, k < 64 ∧ t = k) ∨ (t < 0 ∨ 64 ≤ t) := by
  by_cases h : 0 ≤ t ∧ t < 64
  · exact .inl ⟨t.toNat, by omega, by omega⟩
  · exact .inr (by omega)
theorem tenant_in (t : Nat) (h : t < 64) (w : World) : Calls Tryz.prog 30 #[.int .i64 t] w fun e w' => e = .returned (.bool true) ∧ w' = w := by
  have h1 := tenant_any t w
  rwa [show (decide (0 ≤ (t : Int)) && decide ((t : Int) < 64)) = true from tenB_in h] at h1
theorem tenant_out (t : Int) (h : t < 0 ∨ 64 ≤ t) (w : World) : Calls Tryz.prog 30 #[.int .i64 t] w fun e w' => e = .returned (.bool false) ∧ w' = w := by
  have h1 := tenant_any t w
  rwa [show (decide (0 ≤ t) && decide (t < 64)) = false from tenB_out h] at h1
/-- What is owned has a place in the list. -/
theorem owns_place {L : List (Option Ent)} {t : Nat} {id kind : Int} (h : ownsA L t id kind = true) (h2 : 2 ≤ L.length) : ∃ i : Nat, id = i ∧ i < L.length := by
  by_cases h0 : id = 0 ∨ id = 1
  · rcases h0 with rfl | rfl
    · exact ⟨0, rfl, by omega⟩
    · exact ⟨1, rfl, by omega⟩
  · by_cases h3 : id < 2 ∨ (L.length : Int) ≤ id
    · rw [ownsA_out h3 (by omega)] at h; cases h
    · exact ⟨id.toNat, by omega, by omega⟩
theorem lvA_at {L : List (Option Ent)} {i : Nat} {u : Option Ent} (hu : L[i]? = some u) : lvA L i = (u.getD zeroE).lv := by
  have e4 : atL L i = u := by rw [atL, hu]; rfl
  rw [lvA, Int.toNat_natCast, e4]
  cases u <;> rfl
def levelA (S : ArS) (t id : Int) : Int × Int := if (tenB t && ownsA S.L t.toNat id 0) = true then (lvA S.L id, 0) else (0, 6)
theorem levelA_out {S : ArS} {t id : Int} (h : t < 0 ∨ 64 ≤ t) : levelA S t id = (0, 6) := by rw [levelA, tenB_out h]; rfl
theorem levelA_no {S : ArS} {t : Nat} {id : Int} (h : ownsA S.L t id 0 = false) : levelA S t id = (0, 6) := by rw [levelA, Int.toNat_natCast, h, Bool.and_false]; rfl
theorem levelA_yes {S : ArS} {t : Nat} {id : Int} (ht : t < 64) (h : ownsA S.L t id 0 = true) : levelA S t id = (lvA S.L id, 0) := by rw [levelA, Int.toNat_natCast, h, tenB_in ht]; rfl
set_option maxHeartbeats 1000000 in
theorem level_any (b : Nat) (S : ArS) (F : Nat → Prop) (t id : Int) (w : World) (h : IsAr b S w F) :
    Calls Tryz.prog 167 #[.pointer (some ⟨b, 0, none⟩), .int .i64 t, .int .i64 id] w fun e w' => e = .returned (.tuple #[.int .i64 (levelA S t id).1, .int .i64 (levelA S t id).2]) ∧ w' = w := by
  have h2 := h.ok.two
  rcases ten_cases t with ⟨k, hk, rfl⟩ | ht
  · have HT := Lib.hid (tenant_in k hk)
    have ho := owns_any b S F k id 0 w h hk
    cases hw : ownsA S.L k id 0 with
    | false =>
      rw [levelA_no hw]
      rw [hw] at ho
      have HO := Lib.hid ho
      clear ho h
      go_enter Tryz.func167, Tryz.ntmps167
      go_wp2_with fail
      refine (HT.out _).mono ?_
      rintro e w1 ⟨rfl, rfl⟩
      go_wp2_with fail
      refine HO.out.mono ?_
      rintro e w2 ⟨rfl, rfl⟩
      go_wp2_with fail
      go_ret2
      exact ⟨rfl, rfl⟩
    | true =>
      rw [levelA_yes hk hw]
      rw [hw] at ho
      have HO := Lib.hid ho
      obtain ⟨i, rfl, hi⟩ := owns_place hw h2
      obtain ⟨u, hu⟩ : ∃ u, S.L[i]? = some u := ⟨_, List.getElem?_eq_getElem hi⟩
      rw [lvA_at hu]
      obtain ⟨arr, v1, v3, bm, n, fr, g, vs, h⟩ := h
      obtain ⟨q, o, c, rfl, hFq, hqb, hent⟩ := h.ents
      have c1 : w.cell? ⟨b, 1, none⟩ = some (.slice (some ⟨q, o, none⟩) S.L.length c) := (h.cell 1).trans h.c1
      have e5 := hent i u hu 5 (by omega)
      obtain ⟨x, hx⟩ : ∃ x, x = u.getD zeroE := ⟨_, rfl⟩
      rw [← hx]
      simp only [encO, ← hx, encEnt, List.getElem?_cons_zero, List.getElem?_cons_succ] at e5
      obtain ⟨N, hN⟩ : ∃ N, N = S.L.length := ⟨_, rfl⟩
      rw [← hN] at c1 hi
      clear ho h hent hx hN hw hu h2
      go_enter Tryz.func167, Tryz.ntmps167
      go_wp2_with fail
      refine (HT.out _).mono ?_
      rintro e w1 ⟨rfl, rfl⟩
      go_wp2_with fail
      refine HO.out.mono ?_
      rintro e w2 ⟨rfl, rfl⟩
      go_wp2_with fail
      go_ret2
      exact ⟨rfl, rfl⟩
  · have HT := Lib.hid (tenant_out t ht)
    rw [levelA_out ht]
    clear h
    go_enter Tryz.func167, Tryz.ntmps167
    go_wp2_with fail
    refine (HT.out _).mono ?_
    rintro e w1 ⟨rfl, rfl⟩
    go_wp2_with fail
    go_ret2
    exact ⟨rfl, rfl⟩
def quadV (x : Ent) : Value := .agg #[.int .i64 x.a, .int .i64 x.b, .int .i64 x.c, .int .i64 x.d]
/-- The quarters of a square, or four noughts and an error. -/
def kidsA (S : ArS) (t id : Int) : (Int × Int × Int × Int) × Int := if (tenB t && (decide (2 ≤ id) && ownsA S.L t.toNat id 0)) = true then (match atL S.L id.toNat with
  | some x => ((x.a, x.b, x.c, x.d), 0)
  | none => ((0, 0, 0, 0), 6)) else ((0, 0, 0, 0), 6)
def fourV (q : Int × Int × Int × Int) : Value := .agg #[.int .i64 q.1, .int .i64 q.2.1, .int .i64 q.2.2.1, .int .i64 q.2.2.2]
theorem kidsA_out {S : ArS} {t id : Int} (h : t < 0 ∨ 64 ≤ t) : kidsA S t id = ((0, 0, 0, 0), 6) := by rw [kidsA, tenB_out h]; rfl
theorem kidsA_low {S : ArS} {t : Nat} {id : Int} (h : id < 2) : kidsA S t id = ((0, 0, 0, 0), 6) := by rw [kidsA, decide_eq_false (show ¬ 2 ≤ id by omega)]; simp
theorem kidsA_no {S : ArS} {t : Nat} {id : Int} (h : ownsA S.L t id 0 = false) : kidsA S t id = ((0, 0, 0, 0), 6) := by rw [kidsA, Int.toNat_natCast, h]; simp
theorem kidsA_yes {S : ArS} {t i : Nat} {x : Ent} (ht : t < 64) (h : ownsA S.L t i 0 = true) (h2 : 2 ≤ i) (hx : atL S.L i = some x) : kidsA S t i = ((x.a, x.b, x.c, x.d), 0) := by
  rw [kidsA, Int.toNat_natCast, h, tenB_in ht, decide_eq_true (show (2 : Int) ≤ (i : Int) by omega), Int.toNat_natCast, hx]; rfl
theorem owns_at {L : List (Option Ent)} {t i : Nat} {kind : Int} (h : ownsA L t i kind = true) (h2 : 2 ≤ i) : ∃ x, atL L i = some x ∧ x.k = kind ∧ x.ma.testBit t = true := by
  have e1 : decide ((i : Int) = 0) = false := decide_eq_false (by omega)
  have e2 : decide ((i : Int) = 1) = false := decide_eq_false (by omega)
  rw [ownsA, e1, e2, Int.toNat_natCast] at h
  cases ha : atL L i with
  | none => rw [ha] at h; simp at h
  | some x =>
    rw [ha] at h
    simp at h
    exact ⟨x, rfl, h.2.1, h.2.2⟩
set_option maxHeartbeats 1000000 in
theorem kids_any (b : Nat) (S : ArS) (F : Nat → Prop) (t id : Int) (w : World) (h : IsAr b S w F) :
    Calls Tryz.prog 168 #[.pointer (some ⟨b, 0, none⟩), .int .i64 t, .int .i64 id] w fun e w' => e = .returned (.tuple #[fourV (kidsA S t id).1, .int .i64 (kidsA S t id).2]) ∧ Below w.heap.size w w' := by
  have hbA : IsAr b S (w.alloc (.cells #[.int .i64 0, .int .i64 0, .int .i64 0, .int .i64 0] 207)) F := h.below ((Below.refl _ _).alloc (Nat.le_refl _) _)
  rcases ten_cases t with ⟨k, hk, rfl⟩ | ht
  · have HT := Lib.hid (tenant_in k hk)
    have ho := owns_any b S F k id 0 _ hbA hk
    by_cases hlow : id < 2
    · rw [kidsA_low hlow]
      have g3 : decide (id < 2) = true := decide_eq_true hlow
      clear ho h hbA
      go_enter Tryz.func168, Tryz.ntmps168
      go_wp2_with fail
      refine (HT.out _).mono ?_
      rintro e w1 ⟨rfl, rfl⟩
      go_wp2_with fail
      refine bodyPost_ret (v := .tuple #[.agg #[.int .i64 0, .int .i64 0, .int .i64 0, .int .i64 0], .int .i64 6]) (by simp [results, Tryz.results168, go_sem]) rfl ⟨rfl, (Below.refl _ _).alloc (Nat.le_refl _) _⟩
    · have g3 : decide (id < 2) = false := decide_eq_false hlow
      cases hw : ownsA S.L k id 0 with
      | false =>
        rw [kidsA_no hw]
        rw [hw] at ho
        have HO := Lib.hid ho
        clear ho h hbA
        go_enter Tryz.func168, Tryz.ntmps168
        go_wp2_with fail
        refine (HT.out _).mono ?_
        rintro e w1 ⟨rfl, rfl⟩
        go_wp2_with fail
        refine HO.out.mono ?_
        rintro e w2 ⟨rfl, rfl⟩
        go_wp2_with fail
        refine bodyPost_ret (v := .tuple #[.agg #[.int .i64 0, .int .i64 0, .int .i64 0, .int .i64 0], .int .i64 6]) (by simp [results, Tryz.results168, go_sem]) rfl ⟨rfl, (Below.refl _ _).alloc (Nat.le_refl _) _⟩
      | true =>
        rw [hw] at ho
        have HO := Lib.hid ho
        obtain ⟨i, rfl, hi⟩ := owns_place hw h.ok.two
        obtain ⟨x, hx, _, _⟩ := owns_at hw (by omega)
        rw [kidsA_yes hk hw (by omega) hx]
        have hu := atL_some.1 hx
        have hlt : b < w.heap.size := by obtain ⟨arr, v1, v3, bm, n, fr, g, vs, h⟩ := h; exact lt_of_block h.own
        obtain ⟨arr, v1, v3, bm, n, fr, g, vs, h⟩ := hbA
        obtain ⟨q, o, c, rfl, hFq, hqb, hent⟩ := h.ents
        have c1 := (h.cell 1).trans h.c1
        have e1 := hent i _ hu 1 (by omega)
        have e2 := hent i _ hu 2 (by omega)
        have e3 := hent i _ hu 3 (by omega)
        have e4 := hent i _ hu 4 (by omega)
        simp only [encO, Option.getD_some, encEnt, List.getElem?_cons_zero, List.getElem?_cons_succ] at e1 e2 e3 e4
        obtain ⟨N, hN⟩ : ∃ N, N = S.L.length := ⟨_, rfl⟩
        rw [← hN] at c1 hi
        clear ho h hent hN hw hu hx
        go_enter Tryz.func168, Tryz.ntmps168
        go_wp2_with fail
        refine (HT.out _).mono ?_
        rintro e w1 ⟨rfl, rfl⟩
        go_wp2_with fail
        refine HO.out.mono ?_
        rintro e w2 ⟨rfl, rfl⟩
        go_wp2_with fail
        refine bodyPost_ret (v := .tuple #[.agg #[.int .i64 x.a, .int .i64 x.b, .int .i64 x.c, .int .i64 x.d], .int .i64 0]) (by simp [results, Tryz.results168, go_sem]) rfl ⟨rfl, ?_⟩
        exact (Below.refl _ _).alloc (Nat.le_refl _) _
  · have HT := Lib.hid (tenant_out t ht)
    rw [kidsA_out ht]
    clear h hbA
    go_enter Tryz.func168, Tryz.ntmps168
    go_wp2_with fail
    refine (HT.out _).mono ?_
    rintro e w1 ⟨rfl, rfl⟩
    go_wp2_with fail
    refine bodyPost_ret (v := .tuple #[.agg #[.int .i64 0, .int .i64 0, .int .i64 0, .int .i64 0], .int .i64 6]) (by simp [results, Tryz.results168, go_sem]) rfl ⟨rfl, (Below.refl _ _).alloc (Nat.le_refl _) _⟩
theorem ArAt.find {b : Nat} {S : ArS} {arr : Array Value} {v1 v3 : Value} {bm n : Nat} {fr : List Nat} {g : AKey → Option Nat} {vs : List Value} {w : World} {F : Nat → Prop} {lv : Nat} {X : Nat → Prop} (h : ArAt b S arr v1 v3 bm n fr g vs w F lv X) (k : AKey) : g k = findK S.L k := by
  cases e : findK S.L k with
  | some i => exact (h.keys k i).2 ((findK_iff h.ok).1 e)
  | none =>
    cases e2 : g k with
    | none => rfl
    | some i =>
      have := (findK_iff h.ok).2 ((h.keys k i).1 e2)
      rw [e] at this; cases this
/-- The look-up of a key. -/
theorem ArAt.look {b : Nat} {S : ArS} {arr : Array Value} {v1 v3 : Value} {bm n : Nat} {fr : List Nat} {g : AKey → Option Nat} {vs : List Value} {w : World} {F : Nat → Prop} {lv : Nat} {X : Nat → Prop} (h : ArAt b S arr v1 v3 bm n fr g vs w F lv X) (k : AKey) (hk : GoodA k) :
    (Instr.lookup 81 (.map (some bm)) (keyA k) true).run Tryz.prog w = .ok (.tuple #[.int .i64 (((findK S.L k).getD 0 : Nat) : Int), .bool (findK S.L k).isSome]) w := by
  have h1 := h.map.look_ok key_keyed (t := 81) (e := 3) (z := .int .i64 0) Tryz.underlying81 (fun u => by kernel_rfl) hk
  rw [h1, h.find]
  cases findK S.L k <;> rfl
/-- What was noted, for a tenant. -/
def recallA (S : ArS) (t sq rule j : Int) : Int × Bool := if tenB t = true then (match findK S.L (1, sq, rule, j, 0) with
  | none => (0, false)
  | some i => match atL S.L i with
    | none => (0, false)
    | some x => if x.ma.testBit t.toNat = true then (x.va, true) else (0, false)) else (0, false)
set_option maxHeartbeats 1000000 in
theorem recall_any (b : Nat) (S : ArS) (F : Nat → Prop) (t sq rule j : Int) (w : World) (h : IsAr b S w F) (g1 : I64 sq) (g2 : I64 rule) (g3 : I64 j) :
    Calls Tryz.prog 186 #[.pointer (some ⟨b, 0, none⟩), .int .i64 t, .int .i64 sq, .int .i64 rule, .int .i64 j] w fun e w' => e = .returned (.tuple #[.int .i64 (recallA S t sq rule j).1, .bool (recallA S t sq rule j).2]) ∧ w' = w := by
  rcases ten_cases t with ⟨k, hk, rfl⟩ | ht
  · have HT := Lib.hid (tenant_in k hk)
    have ho := fun id => owns_any b S F k id 1 w h hk
    obtain ⟨arr, v1, v3, bm, n, fr, g, vs, h⟩ := h
    have hlook := h.look (1, sq, rule, j, 0) ⟨by show I64 1; unfold I64; omega, g1, g2, g3, by show I64 0; unfold I64; omega⟩
    have c2 := (h.cell 2).trans h.c2
    unfold keyA at hlook
    simp only at hlook
    rw [recallA, tenB_in hk, if_pos rfl]
    cases hf : findK S.L (1, sq, rule, j, 0) with
    | none =>
      rw [hf] at hlook
      simp only [Option.getD_none, Option.isSome_none, Int.natCast_zero] at hlook
      simp only
      clear h ho hf
      go_enter Tryz.func186, Tryz.ntmps186
      go_wp2_with fail
      refine (HT.out _).mono ?_
      rintro e w1 ⟨rfl, rfl⟩
      go_wp2_with fail
      go_ret2
      exact ⟨rfl, rfl⟩
    | some i =>
      rw [hf] at hlook
      simp only [Option.getD_some, Option.isSome_some] at hlook
      obtain ⟨x, hx, hxk⟩ := (findK_iff h.ok).1 hf
      have hk1 : x.k = 1 := congrArg Prod.fst hxk
      have hi := atL_lt hx
      have hu := atL_some.1 hx
      have h2i : 2 ≤ i := by
        rcases Nat.lt_or_ge i 2 with h0 | h0
        · have hz : i = 0 ∨ i = 1 := by omega
          rcases hz with rfl | rfl
          · rw [h.ok.nil0] at hx; cases hx
          · rw [h.ok.nil1] at hx; cases hx
        · exact h0
      obtain ⟨q, o, c, rfl, hFq, hqb, hent⟩ := h.ents
      have c1 := (h.cell 1).trans h.c1
      have e6 := hent i _ hu 6 (by omega)
      simp only [encO, Option.getD_some, encEnt, List.getElem?_cons_zero, List.getElem?_cons_succ] at e6
      have hoi := ho i
      rw [ownsA_list hu h2i] at hoi
      simp only [Option.getD_some, hk1, decide_true, Bool.true_and] at hoi
      have HO := Lib.hid hoi
      simp only [hx, Int.toNat_natCast]
      obtain ⟨N, hN⟩ : ∃ N, N = S.L.length := ⟨_, rfl⟩
      rw [← hN] at c1 hi
      clear h ho hf hoi hent hN hx hxk hk1 hu h2i
      by_cases hm : x.ma.testBit k = true
      · rw [if_pos hm]
        rw [hm] at HO
        go_enter Tryz.func186, Tryz.ntmps186
        go_wp2_with fail
        refine (HT.out _).mono ?_
        rintro e w1 ⟨rfl, rfl⟩
        go_wp2_with fail
        refine HO.out.mono ?_
        rintro e w2 ⟨rfl, rfl⟩
        go_wp2_with fail
        go_ret2
        exact ⟨rfl, rfl⟩
      · rw [if_neg hm]
        have hm' : x.ma.testBit k = false := by simpa using hm
        rw [hm'] at HO
        go_enter Tryz.func186, Tryz.ntmps186
        go_wp2_with fail
        refine (HT.out _).mono ?_
        rintro e w1 ⟨rfl, rfl⟩
        go_wp2_with fail
        refine HO.out.mono ?_
        rintro e w2 ⟨rfl, rfl⟩
        go_wp2_with fail
        go_ret2
        exact ⟨rfl, rfl⟩
  · have HT := Lib.hid (tenant_out t ht)
    rw [recallA, tenB_out ht]
    simp only [Bool.false_eq_true, if_false]
    clear h
    go_enter Tryz.func186, Tryz.ntmps186
    go_wp2_with fail
    refine (HT.out _).mono ?_
    rintro e w1 ⟨rfl, rfl⟩
    go_wp2_with fail
    go_ret2
    exact ⟨rfl, rfl⟩
end Go.Proofs.YtabhpbkkjijfjaaGreatDoor
