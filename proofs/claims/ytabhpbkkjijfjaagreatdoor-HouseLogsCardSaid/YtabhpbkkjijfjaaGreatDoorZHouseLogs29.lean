/-
  arena.Mark; arena.Limit; For every config, house.Check answers what the document's CheckConfig answers (no condition): the two functions, each by its walk.
-/
import Derived.Test.YtabhpbkkjijfjaaGreatDoorZHouseLogsArPut
import Derived.Test.YtabhpbkkjijfjaaGreatDoorKinds
namespace Go.Proofs.YtabhpbkkjijfjaaGreatDoor
set_option maxRecDepth 100000
open Go.RowKit

def markA (S : ArS) (t : Nat) : ArS := { S with added := S.added.set t [] }
theorem markA_add {S : ArS} {t : Nat} (h : ArOk S) (ht : t < 64) (s : Nat) : (markA S t).add s = if s = t then [] else S.add s := by
  unfold markA ArS.add
  simp only
  rw [List.getD_eq_getElem?_getD, List.getElem?_set, List.getD_eq_getElem?_getD]
  by_cases e : s = t
  · subst e
    rw [if_pos rfl, if_pos (by rw [h.added]; exact ht), if_pos rfl]; rfl
  · rw [if_neg (Ne.symm e), if_neg e]
theorem ArAt.marked {b : Nat} {S : ArS} {arr : Array Value} {v1 v3 : Value} {bm n t : Nat} {fr : List Nat} {g : AKey → Option Nat} {vs : List Value} {w : World} {F : Nat → Prop} {lv : Nat} {X : Nat → Prop}
    (h : ArAt b S arr v1 v3 bm n fr g vs w F lv X) (ht : t < 64) :
    ArAt b (markA S t) (arr.setIfInBounds (132 + t) (.slice none 0 0)) v1 v3 bm n fr g (vs.set t (.slice none 0 0)) (w.setCell ⟨b, 132 + t, none⟩ (.slice none 0 0)) F lv X := by
  have hs := h.size
  have hlen := h.len
  have blk : ∀ k, k ≠ b → (w.setCell ⟨b, 132 + t, none⟩ (.slice none 0 0)).heap[k]? = w.heap[k]? := fun k hk => Below.heap_setCell _ _ _ _ hk
  have hvt : ∀ (s : Nat) (u : Value), (vs.set t (.slice none 0 0))[s]? = some u → (s = t ∧ u = .slice none 0 0) ∨ (s ≠ t ∧ vs[s]? = some u) := fun s u hu => by
    rw [List.getElem?_set] at hu
    by_cases e : t = s
    · rw [if_pos e] at hu
      split at hu
      · cases hu; exact .inl ⟨e.symm, rfl⟩
      · cases hu
    · rw [if_neg e] at hu; exact .inr ⟨fun h => e h.symm, hu⟩
  have ok := h.ok
  exact { h with
    ok := ⟨ok.room, ok.two, ok.nil0, ok.nil1, ok.long, ok.live, ok.uniq, ok.mask, ok.quota, ok.quotaR, by simp only [markA, List.length_set]; exact ok.added, fun s l hl => by
      simp only [markA, List.getElem?_set] at hl
      split at hl
      · split at hl
        · cases hl; exact Nat.zero_le _
        · cases hl
      · exact ok.few s l hl⟩
    own := Joins.block_setCell h.own _
    size := by rw [Array.size_setIfInBounds, hs]
    c0 := by rw [set_at (by omega)]; exact h.c0
    c1 := by rw [set_at (by omega)]; exact h.c1
    c2 := by rw [set_at (by omega)]; exact h.c2
    c3 := by rw [set_at (by omega)]; exact h.c3
    c4 := fun s hs' => by rw [set_at (by omega)]; exact h.c4 s hs'
    c5 := fun s hs' => by rw [set_at (by omega)]; exact h.c5 s hs'
    c6 := fun s hs' => by
      rw [List.getElem?_set]
      by_cases e : t = s
      · subst e
        rw [set_same (by rw [hs]; omega), if_pos rfl, if_pos (by omega)]
      · rw [set_at (by omega), if_neg e]; exact h.c6 s hs'
    c7 := by rw [set_at (by omega)]; exact h.c7
    list := h.list.keep fun q hq => blk q (fun e => h.n1 (by rw [← e]; exact hq))
    map := h.map.keep (blk bm h.nm)
    free := h.free.keep fun q hq => blk q (fun e => h.n3 (by rw [← e]; exact hq))
    len := by rw [List.length_set]; exact h.len
    rows := fun s u hu => by
      rw [markA_add ok ht]
      rcases hvt s u hu with ⟨rfl, rfl⟩ | ⟨hne, hu'⟩
      · rw [if_pos rfl]; exact Row.nil _ _ _
      · rw [if_neg hne]
        exact (h.rows s u hu').keep fun q hq => blk q (fun e => h.nv hu' (by rw [← e]; exact hq))
    fv := fun s u q hu hq => by
      rcases hvt s u hu with ⟨rfl, rfl⟩ | ⟨hne, hu'⟩
      · cases hq
      · exact h.fv s u q hu' hq
    lt := fun i hi => by simpa [World.setCell] using h.lt i hi
    apart3 := fun s u q hu hq => by
      rcases hvt s u hu with ⟨rfl, rfl⟩ | ⟨hne, hu'⟩
      · cases hq
      · exact h.apart3 s u q hu' hq
    apart := fun s r u z q hsr hu hz hq => by
      rcases hvt s u hu with ⟨rfl, rfl⟩ | ⟨hne, hu'⟩
      · cases hq
      · rcases hvt r z hz with ⟨rfl, rfl⟩ | ⟨hne2, hz'⟩
        · intro e; cases e
        · exact h.apart s r u z q hsr hu' hz' hq }
/-- Mark's answer. -/
theorem mark_any (b : Nat) (S : ArS) (F : Nat → Prop) (t : Int) (w : World) (h : IsAr b S w F) :
    Calls Tryz.prog 52 #[.pointer (some ⟨b, 0, none⟩), .int .i64 t] w (Mut w F (IsAr b (if tenB t = true then markA S t.toNat else S)) (.int .i64 (if tenB t = true then 0 else 11))) := by
  rcases ten_cases t with ⟨k, hk, rfl⟩ | ht
  · have HT := Lib.hid (tenant_in k hk)
    rw [tenB_in hk, if_pos rfl, if_pos rfl, Int.toNat_natCast]
    obtain ⟨arr, v1, v3, bm, n, fr, g, vs, h⟩ := h
    have hlen := h.len
    obtain ⟨v, hv⟩ : ∃ v, vs[k]? = some v := ⟨_, List.getElem?_eq_getElem (by omega)⟩
    have c6 := (h.cell (132 + k)).trans ((h.c6 k hk).trans hv)
    have f6 : w.frozen? ⟨b, 132 + k, none⟩ = false := Joins.unfrozen_of_block h.own _
    have HM := Lib.hid (h.marked hk)
    have HK := Lib.hid (Keeps.setCell (p := ⟨b, 132 + k, none⟩) (Keeps.refl F w) (fun _ => h.fb) (.slice none 0 0))
    have hk64 : (k : Int) < 64 := by omega
    clear h hv hlen
    go_enter Tryz.func52, Tryz.ntmps52
    go_wp2_with fail
    refine (HT.out _).mono ?_
    rintro e w1 ⟨rfl, rfl⟩
    go_wp2_with fail
    go_ret
    exact ⟨rfl, F, ⟨_, _, _, _, _, _, _, _, HM.out⟩, fun i hi => .inl hi, HK.out⟩
  · have HT := Lib.hid (tenant_out t ht)
    have HH := Lib.hid h
    rw [tenB_out ht]
    simp only [Bool.false_eq_true, if_false]
    clear h
    go_enter Tryz.func52, Tryz.ntmps52
    go_wp2_with fail
    refine (HT.out _).mono ?_
    rintro e w1 ⟨rfl, rfl⟩
    go_wp2_with fail
    go_ret
    exact Mut.same HH.out
end Go.Proofs.YtabhpbkkjijfjaaGreatDoor
namespace Go.Proofs.YtabhpbkkjijfjaaGreatDoor
set_option maxRecDepth 100000
open Go.RowKit

def limitA (S : ArS) (t : Nat) (n : Int) : ArS := { S with quota := S.quota.set t n }
theorem ArAt.limited {b : Nat} {S : ArS} {arr : Array Value} {v1 v3 : Value} {bm n t : Nat} {fr : List Nat} {g : AKey → Option Nat} {vs : List Value} {w : World} {F : Nat → Prop} {lv : Nat} {X : Nat → Prop} {m : Int}
    (h : ArAt b S arr v1 v3 bm n fr g vs w F lv X) (ht : t < 64) (hm : 0 ≤ m ∧ m ≤ 200000) :
    ArAt b (limitA S t m) (arr.setIfInBounds (68 + t) (.int .i64 m)) v1 v3 bm n fr g vs (w.setCell ⟨b, 68 + t, none⟩ (.int .i64 m)) F lv X := by
  have hs := h.size
  have blk : ∀ k, k ≠ b → (w.setCell ⟨b, 68 + t, none⟩ (.int .i64 m)).heap[k]? = w.heap[k]? := fun k hk => Below.heap_setCell _ _ _ _ hk
  have ok := h.ok
  exact { h with
    ok := ⟨ok.room, ok.two, ok.nil0, ok.nil1, ok.long, ok.live, ok.uniq, ok.mask, by simp only [limitA, List.length_set]; exact ok.quota, fun q hq => by
      rcases List.mem_or_eq_of_mem_set hq with h1 | h1
      · exact ok.quotaR q h1
      · rw [h1]; exact hm, ok.added, ok.few⟩
    own := Joins.block_setCell h.own _
    size := by rw [Array.size_setIfInBounds, hs]
    c0 := by rw [set_at (by omega)]; exact h.c0
    c1 := by rw [set_at (by omega)]; exact h.c1
    c2 := by rw [set_at (by omega)]; exact h.c2
    c3 := by rw [set_at (by omega)]; exact h.c3
    c4 := fun s hs' => by rw [set_at (by omega)]; exact h.c4 s hs'
    c5 := fun s hs' => by
      unfold limitA ArS.quo
      simp only
      rw [List.getD_eq_getElem?_getD, List.getElem?_set]
      by_cases e : t = s
      · subst e
        rw [set_same (by rw [hs]; omega), if_pos rfl, if_pos (by rw [ok.quota]; exact ht)]; rfl
      · rw [set_at (by omega), if_neg e, ← List.getD_eq_getElem?_getD]; exact h.c5 s hs'
    c6 := fun s hs' => by rw [set_at (by omega)]; exact h.c6 s hs'
    c7 := by rw [set_at (by omega)]; exact h.c7
    list := h.list.keep fun q hq => blk q (fun e => h.n1 (by rw [← e]; exact hq))
    map := h.map.keep (blk bm h.nm)
    free := h.free.keep fun q hq => blk q (fun e => h.n3 (by rw [← e]; exact hq))
    rows := fun s u hu => (h.rows s u hu).keep fun q hq => blk q (fun e => h.nv hu (by rw [← e]; exact hq))
    lt := fun i hi => by simpa [World.setCell] using h.lt i hi }
def limitOk (S : ArS) (t n : Int) : Prop := tenB t = true ∧ 0 ≤ n ∧ n ≤ S.room
set_option maxHeartbeats 1000000 in
theorem limit_yes (b : Nat) (S : ArS) (F : Nat → Prop) (t : Nat) (n : Int) (w : World) (h : IsAr b S w F) (ht : t < 64) (h0 : 0 ≤ n) (h1 : n ≤ S.room) :
    Calls Tryz.prog 18 #[.pointer (some ⟨b, 0, none⟩), .int .i64 t, .int .i64 n] w (Mut w F (IsAr b (limitA S t n)) (.int .i64 0)) := by
  have HT := Lib.hid (tenant_in t ht)
  obtain ⟨arr, v1, v3, bm, k, fr, g, vs, h⟩ := h
  have c0 := (h.cell 0).trans h.c0
  have c5 := (h.cell (68 + t)).trans (h.c5 t ht)
  have f5 : w.frozen? ⟨b, 68 + t, none⟩ = false := Joins.unfrozen_of_block h.own _
  have HM := Lib.hid (h.limited ht (m := n) ⟨h0, by have := h.ok.room; omega⟩)
  have HK := Lib.hid (Keeps.setCell (p := ⟨b, 68 + t, none⟩) (Keeps.refl F w) (fun _ => h.fb) (.int .i64 n))
  have ht64 : (t : Int) < 64 := by omega
  obtain ⟨rm, hrm⟩ : ∃ rm, rm = S.room := ⟨_, rfl⟩
  rw [← hrm] at c0 h1
  have t1 : decide (n < 0) = false := decide_eq_false (by omega)
  have t2 : decide (n > (rm : Int)) = false := decide_eq_false (by omega)
  have t3 : decide ((rm : Int) < n) = false := decide_eq_false (by omega)
  clear h hrm
  go_enter Tryz.func18, Tryz.ntmps18
  go_wp2_with fail
  refine (HT.out _).mono ?_
  rintro e w1 ⟨rfl, rfl⟩
  go_wp2_with fail
  go_ret
  exact ⟨rfl, F, ⟨_, _, _, _, _, _, _, _, HM.out⟩, fun i hi => .inl hi, HK.out⟩
end Go.Proofs.YtabhpbkkjijfjaaGreatDoor
namespace Go.Proofs.YtabhpbkkjijfjaaGreatDoor
set_option maxRecDepth 100000
open Go.RowKit

def badQ (room : Int) (q : Int) : Bool := decide (q < 0) || decide (room < q)
def wrongC (room : Int) (n : Nat) : Bool := decide (room < 0) || decide (200000 < room) || decide (n < 1) || decide (64 < n)
/-- What a config's check answers. -/
def checkF (room : Int) (qs : List Int) : Int := if wrongC room qs.length then 3 else if qs.any (badQ room) then 3 else if room < qs.sum then 5 else 0
theorem check_wrong {room : Int} {qs : List Int} (h : room < 0 ∨ 200000 < room ∨ qs.length < 1 ∨ 64 < qs.length) : checkF room qs = 3 := by
  have : wrongC room qs.length = true := by simp only [wrongC, Bool.or_eq_true, decide_eq_true_eq]; omega
  rw [checkF, if_pos this]
theorem check_bad {room q : Int} {qs : List Int} {k : Nat} (h : qs[k]? = some q) (hq : q < 0 ∨ room < q) : checkF room qs = 3 := by
  have : qs.any (badQ room) = true := List.any_eq_true.2 ⟨q, List.mem_of_getElem? h, by simpa [badQ] using hq⟩
  rw [checkF, if_pos this]; split <;> rfl
structure ChkInv (room : Int) (qs : List Int) (k : Nat) (t : Int) : Prop where
  sum : t = (qs.take k).sum
  all : ∀ q ∈ qs.take k, 0 ≤ q ∧ q ≤ room
  lo : 0 ≤ t
  hi : t ≤ 200000 * k
theorem chk_zero (room : Int) (qs : List Int) : ChkInv room qs 0 0 := ⟨by simp, by simp, by omega, by omega⟩
theorem chk_succ {room q t : Int} {qs : List Int} {k : Nat} (hI : ChkInv room qs k t) (h : qs[k]? = some q) (h0 : 0 ≤ q) (h1 : q ≤ room) (h2 : room ≤ 200000) : ChkInv room qs (k + 1) (t + q) := by
  have e : qs.take (k + 1) = qs.take k ++ [q] := by rw [List.take_add_one, h]; rfl
  refine ⟨by rw [e, List.sum_append, ← hI.sum]; simp, fun p hp => ?_, by have := hI.lo; omega, by have := hI.hi; omega⟩
  rw [e] at hp
  rcases List.mem_append.1 hp with hp | hp
  · exact hI.all p hp
  · simp at hp; subst hp; exact ⟨h0, h1⟩
theorem chk_end {room t : Int} {qs : List Int} {k : Nat} (hI : ChkInv room qs k t) (hk : k = qs.length) (h0 : 0 ≤ room) (h1 : room ≤ 200000) (h2 : 1 ≤ qs.length) (h3 : qs.length ≤ 64) : checkF room qs = if room < t then 5 else 0 := by
  have e1 : wrongC room qs.length = false := by simp only [wrongC, Bool.or_eq_false_iff, decide_eq_false_iff_not]; omega
  have e2 : qs.any (badQ room) = false := by
    rw [Bool.eq_false_iff]
    intro h
    obtain ⟨q, hq, hb⟩ := List.any_eq_true.1 h
    have := hI.all q (by rw [hk, List.take_length]; exact hq)
    simp [badQ] at hb
    omega
  have e3 := hI.sum
  rw [hk, List.take_length] at e3
  rw [checkF, e1, e2, ← e3]
  simp

theorem fiveC (room : Int) (n : Nat) : room < 0 ∨ (0 ≤ room ∧ 200000 < room) ∨ (0 ≤ room ∧ room ≤ 200000 ∧ n < 1) ∨ (0 ≤ room ∧ room ≤ 200000 ∧ 1 ≤ n ∧ 64 < n) ∨ (0 ≤ room ∧ room ≤ 200000 ∧ 1 ≤ n ∧ n ≤ 64) := by omega

set_option maxRecDepth 100000 in
set_option maxHeartbeats 2000000 in
theorem houseCheck_any (room : Int) (qs : List Int) (a : Option Addr) (cap : Nat) (w : World) (hs : Sl w 1 8 a qs.length cap (qs.flatMap encInt)) :
    Calls Tryz.prog 15 #[.agg #[.int .i64 room, .slice a qs.length cap]] w fun e w' => e = .returned (.int .i64 (checkF room qs)) ∧ Below w.heap.size w w' := by
  rcases fiveC room qs.length with h | ⟨h1, h⟩ | ⟨h1, h2, h⟩ | ⟨h1, h2, h3, h⟩ | ⟨h1, h2, h3, h4⟩
  rotate_right
  · obtain ⟨b, o, rfl, hrow⟩ := hs.row (by omega)
    have hb := hs.lt (by omega) (by omega)
    go_enter Tryz.func15, Tryz.ntmps15
    go_wp2
    go_loop [3, 29] (fun t i => ∃ (k : Nat) (s : Int), k ≤ qs.length ∧ i = .int .i64 k ∧ t = .int .i64 s ∧ ChkInv room qs k s) (fun _ i => qs.length - (intOf i).toNat)
    case atStart => exact ⟨0, 0, Nat.zero_le _, rfl, rfl, chk_zero _ _⟩
    case round =>
      obtain ⟨k, s, hk, rfl, rfl, hI⟩ := hrel
      have lo := hI.lo
      have hi := hI.hi
      by_cases hlt : k < qs.length
      · obtain ⟨q, hq⟩ : ∃ q, qs[k]? = some q := ⟨qs[k], List.getElem?_eq_getElem hlt⟩
        have e0 := hrow _ _ (flat_at (k := 1) (enc := encInt) (by omega) (fun _ => rfl) qs k 0 q hq (by omega))
        simp only [Nat.mul_one, Nat.add_zero] at e0
        have g0 : w.cell? ⟨b, o + k, none⟩ = some (.int .i64 q) := e0
        clear e0
        have Hq := Lib.hid hq
        clear hq
        rcases (show q < 0 ∨ (0 ≤ q ∧ room < q) ∨ (0 ≤ q ∧ q ≤ room) by omega) with c | ⟨c1, c⟩ | ⟨c1, c2⟩
        · go_wp2
          go_ret
          exact ⟨by rw [check_bad Hq.out (Or.inl c)]; rfl, (Below.refl _ _).alloc (Nat.le_refl _) _⟩
        · go_wp2
          go_ret
          exact ⟨by rw [check_bad Hq.out (Or.inr c)]; rfl, (Below.refl _ _).alloc (Nat.le_refl _) _⟩
        · go_wp2
          go_round
          case rel => exact ⟨k + 1, s + q, by omega, by go_num, rfl, chk_succ hI Hq.out c1 c2 h2⟩
          case measure => simp [intOf]; omega
      · have hE := chk_end hI (by omega) h1 h2 h3 h4
        have HE := Lib.hid hE
        clear hE
        by_cases c : room < s
        · go_wp2
          go_ret
          exact ⟨by rw [HE.out, if_pos c]; rfl, (Below.refl _ _).alloc (Nat.le_refl _) _⟩
        · go_wp2
          go_ret
          exact ⟨by rw [HE.out, if_neg (by omega)]; rfl, (Below.refl _ _).alloc (Nat.le_refl _) _⟩
  all_goals
    go_enter Tryz.func15, Tryz.ntmps15
    go_wp2
    go_ret
    exact ⟨by rw [check_wrong (by omega)]; rfl, (Below.refl _ _).alloc (Nat.le_refl _) _⟩

end Go.Proofs.YtabhpbkkjijfjaaGreatDoor
