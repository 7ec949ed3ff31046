/-
  ref.Store's Mark and Limit; arena.Limit; ref.Store's Limit; the arena's Limit, all its answers.
-/
import Derived.Test.YtdmamecfmfhlmaaZArenaPlays27
import Derived.Test.YtdmamecfmfhlmaaZArenaPlays17
namespace Go.Proofs.Ytdmamecfmfhlmaa
set_option maxRecDepth 100000
open Go.RowKit

def markR (S : RSt) (t : Nat) : RSt := { S with since := S.since.set t [] }
theorem markR_sn {S : RSt} {t : Nat} (h : S.since.length = 64) (ht : t < 64) (s : Nat) : (markR S t).sn s = if s = t then [] else S.sn s := by
  unfold markR RSt.sn
  simp only [List.getD_eq_getElem?_getD, List.getElem?_set]
  by_cases e : t = s
  · subst e; rw [if_pos rfl, if_pos (by omega), if_pos rfl]; rfl
  · rw [if_neg e, if_neg (fun h => e h.symm)]
theorem ReAt.marked {b : Nat} {S : RSt} {arr : Array Value} {v1 : Value} {vs : List Value} {w : World} {F : Nat → Prop} (h : ReAt b S arr v1 vs w F) {t : Nat} (ht : t < 64) :
    ReAt b (markR S t) (arr.setIfInBounds (66 + t) (.slice none 0 0)) v1 (vs.set t (.slice none 0 0)) (w.setCell ⟨b, 66 + t, none⟩ (.slice none 0 0)) F := by
  have hs := h.size
  have hl := h.len
  have oth : ∀ q, q ≠ b → (w.setCell ⟨b, 66 + t, none⟩ (.slice none 0 0)).heap[q]? = w.heap[q]? := fun q hq => Below.heap_setCell _ _ _ _ (by show q ≠ b; exact hq)
  have get : ∀ s, (vs.set t (.slice none 0 0))[s]? = if s = t then some (.slice none 0 0) else vs[s]? := fun s => by
    rw [List.getElem?_set]
    by_cases e : t = s
    · subst e; rw [if_pos rfl, if_pos (by omega), if_pos rfl]
    · rw [if_neg e, if_neg (fun h => e h.symm)]
  have old : ∀ (s : Nat) (v : Value), (vs.set t (.slice none 0 0))[s]? = some v → (s = t ∧ v = .slice none 0 0) ∨ (s ≠ t ∧ vs[s]? = some v) := fun s v hv => by
    rw [get] at hv
    by_cases e : s = t
    · rw [if_pos e] at hv; exact .inl ⟨e, (Option.some.inj hv).symm⟩
    · rw [if_neg e] at hv; exact .inr ⟨e, hv⟩
  refine ⟨Joins.block_setCell h.own _, by rw [Array.size_setIfInBounds]; exact hs, by rw [set_at (by omega)]; exact h.c0, by rw [set_at (by omega)]; exact h.c1, fun s hs' => by rw [set_at (by omega)]; exact h.c2 s hs', fun s hs' => ?_, h.few, h.list.keep fun q hq => oth q (fun e => h.list.ne_type h.own (by decide) (by rw [hq, e])), by rw [List.length_set]; exact hl, fun s v hv => ?_, h.fb, h.f1, fun s v q hv hq => ?_, fun i hi => by simpa [World.setCell] using h.lt i hi, fun s1 s2 v u q hne hv hu hq => ?_, h.qlen, by show (S.since.set t []).length = 64; rw [List.length_set]; exact h.slen⟩
  · rw [get]
    by_cases e : s = t
    · subst e; rw [if_pos rfl, set_same (by omega)]
    · rw [if_neg e, set_at (by omega)]; exact h.c3 s hs'
  · rw [markR_sn h.slen ht]
    rcases old s v hv with ⟨rfl, rfl⟩ | ⟨hne, hv'⟩
    · rw [if_pos rfl]; exact Row.nil _ _ _
    · rw [if_neg hne]
      exact (h.rows s v hv').keep fun q hq => oth q (fun e => (h.rows s v hv').ne_type h.own (by decide) (by rw [hq, e]))
  · rcases old s v hv with ⟨rfl, rfl⟩ | ⟨hne, hv'⟩
    · simp [Value.ownBlock] at hq
    · exact h.fv s v q hv' hq
  · rcases old s1 v hv with ⟨rfl, rfl⟩ | ⟨h1, hv'⟩
    · simp [Value.ownBlock] at hq
    · rcases old s2 u hu with ⟨rfl, rfl⟩ | ⟨h2, hu'⟩
      · simp [Value.ownBlock]
      · exact h.apart s1 s2 v u q hne hv' hu' hq
set_option maxHeartbeats 2000000 in
theorem markR_any (b : Nat) (S : RSt) (F : Nat → Prop) (t : Int) (w : World) (h : IsRe b S w F) :
    Calls Try.prog 68 #[.pointer (some ⟨b, 0, none⟩), .int .i64 t] w (Mut w F (IsRe b (if tenB t = true then markR S t.toNat else S)) (.int .i64 (if tenB t = true then 0 else 11))) := by
  rcases ten_cases t with ⟨k, hk, rfl⟩ | ht
  · have HT := Lib.hid (person_in k hk)
    rw [tenB_in hk, if_pos rfl, if_pos rfl, Int.toNat_natCast]
    obtain ⟨arr, v1, vs, h⟩ := h
    have hlen := h.len
    obtain ⟨v, hv⟩ : ∃ v, vs[k]? = some v := ⟨_, List.getElem?_eq_getElem (by omega)⟩
    have c6 := (h.cell (66 + k)).trans ((h.c3 k hk).trans hv)
    have f6 : w.frozen? ⟨b, 66 + k, none⟩ = false := Joins.unfrozen_of_block h.own _
    have HM := Lib.hid (h.marked hk)
    have HK := Lib.hid (Keeps.setCell (p := ⟨b, 66 + k, none⟩) (Keeps.refl F w) (fun _ => h.fb) (.slice none 0 0))
    have hk64 : (k : Int) < 64 := by omega
    clear h hv hlen
    go_enter Try.func68, Try.ntmps68
    go_wp2_with fail
    refine (HT.out _).mono ?_
    rintro e w1 ⟨rfl, rfl⟩
    go_wp2_with fail
    go_ret
    exact ⟨rfl, F, ⟨_, _, _, HM.out⟩, fun i hi => .inl hi, HK.out⟩
  · have HT := Lib.hid (person_out t ht)
    rw [tenB_out ht, if_neg (by decide), if_neg (by decide)]
    have HI := Lib.hid h
    clear h
    go_enter Try.func68, Try.ntmps68
    go_wp2_with fail
    refine (HT.out _).mono ?_
    rintro e w1 ⟨rfl, rfl⟩
    go_wp2_with fail
    go_ret
    exact Mut.same HI.out
end Go.Proofs.Ytdmamecfmfhlmaa
namespace Go.Proofs.Ytdmamecfmfhlmaa
set_option maxRecDepth 100000
open Go.RowKit

def limitA (S : ArS) (t : Nat) (n : Int) : ArS := { S with quota := S.quota.set t n }
theorem ArAt.limited {b : Nat} {S : ArS} {arr : Array Value} {v1 v3 : Value} {bm n t : Nat} {fr : List Nat} {g : AKey → Option Nat} {vs : List Value} {w : World} {F : Nat → Prop} {lv : Nat} {X : Nat → Prop} {m : Int}
    (h : ArAt b S arr v1 v3 bm n fr g vs w F lv X) (ht : t < 64) (hm : 0 ≤ m ∧ m ≤ 200000) :
    ArAt b (limitA S t m) (arr.setIfInBounds (68 + t) (.int .i64 m)) v1 v3 bm n fr g vs (w.setCell ⟨b, 68 + t, none⟩ (.int .i64 m)) F lv X := by
  have hs := h.size
  have blk : ∀ k, k ≠ b → (w.setCell ⟨b, 68 + t, none⟩ (.int .i64 m)).heap[k]? = w.heap[k]? := fun k hk => Below.heap_setCell _ _ _ _ hk
  have ok := h.ok
  exact { h with
    ok := ⟨ok.room, ok.two, ok.nil0, ok.nil1, ok.long, ok.live, ok.uniq, ok.mask, by simp only [limitA, List.length_set]; exact ok.quota, fun q hq => by
      rcases List.mem_or_eq_of_mem_set hq with h1 | h1
      · exact ok.quotaR q h1
      · rw [h1]; exact hm, ok.added, ok.few⟩
    own := Joins.block_setCell h.own _
    size := by rw [Array.size_setIfInBounds, hs]
    c0 := by rw [set_at (by omega)]; exact h.c0
    c1 := by rw [set_at (by omega)]; exact h.c1
    c2 := by rw [set_at (by omega)]; exact h.c2
    c3 := by rw [set_at (by omega)]; exact h.c3
    c4 := fun s hs' => by rw [set_at (by omega)]; exact h.c4 s hs'
    c5 := fun s hs' => by
      unfold limitA ArS.quo
      simp only
      rw [List.getD_eq_getElem?_getD, List.getElem?_set]
      by_cases e : t = s
      · subst e
        rw [set_same (by rw [hs]; omega), if_pos rfl, if_pos (by rw [ok.quota]; exact ht)]; rfl
      · rw [set_at (by omega), if_neg e, ← List.getD_eq_getElem?_getD]; exact h.c5 s hs'
    c6 := fun s hs' => by rw [set_at (by omega)]; exact h.c6 s hs'
    c7 := by rw [set_at (by omega)]; exact h.c7
    list := h.list.keep fun q hq => blk q (fun e => h.n1 (by rw [← e]; exact hq))
    map := h.map.keep (blk bm h.nm)
    free := h.free.keep fun q hq => blk q (fun e => h.n3 (by rw [← e]; exact hq))
    rows := fun s u hu => (h.rows s u hu).keep fun q hq => blk q (fun e => h.nv hu (by rw [← e]; exact hq))
    lt := fun i hi => by simpa [World.setCell] using h.lt i hi }
def limitOk (S : ArS) (t n : Int) : Prop := tenB t = true ∧ 0 ≤ n ∧ n ≤ S.room
set_option maxHeartbeats 1000000 in
theorem limit_yes (b : Nat) (S : ArS) (F : Nat → Prop) (t : Nat) (n : Int) (w : World) (h : IsAr b S w F) (ht : t < 64) (h0 : 0 ≤ n) (h1 : n ≤ S.room) :
    Calls Try.prog 65 #[.pointer (some ⟨b, 0, none⟩), .int .i64 t, .int .i64 n] w (Mut w F (IsAr b (limitA S t n)) (.int .i64 0)) := by
  have HT := Lib.hid (tenant_in t ht)
  obtain ⟨arr, v1, v3, bm, k, fr, g, vs, h⟩ := h
  have c0 := (h.cell 0).trans h.c0
  have c5 := (h.cell (68 + t)).trans (h.c5 t ht)
  have f5 : w.frozen? ⟨b, 68 + t, none⟩ = false := Joins.unfrozen_of_block h.own _
  have HM := Lib.hid (h.limited ht (m := n) ⟨h0, by have := h.ok.room; omega⟩)
  have HK := Lib.hid (Keeps.setCell (p := ⟨b, 68 + t, none⟩) (Keeps.refl F w) (fun _ => h.fb) (.int .i64 n))
  have ht64 : (t : Int) < 64 := by omega
  obtain ⟨rm, hrm⟩ : ∃ rm, rm = S.room := ⟨_, rfl⟩
  rw [← hrm] at c0 h1
  have t1 : decide (n < 0) = false := decide_eq_false (by omega)
  have t2 : decide (n > (rm : Int)) = false := decide_eq_false (by omega)
  have t3 : decide ((rm : Int) < n) = false := decide_eq_false (by omega)
  clear h hrm
  go_enter Try.func65, Try.ntmps65
  go_wp2_with fail
  refine (HT.out _).mono ?_
  rintro e w1 ⟨rfl, rfl⟩
  go_wp2_with fail
  go_ret
  exact ⟨rfl, F, ⟨_, _, _, _, _, _, _, _, HM.out⟩, fun i hi => .inl hi, HK.out⟩
end Go.Proofs.Ytdmamecfmfhlmaa
namespace Go.Proofs.Ytdmamecfmfhlmaa
set_option maxRecDepth 100000
open Go.RowKit

def limitR (S : RSt) (t : Nat) (n : Int) : RSt := { S with quota := S.quota.set t n }
theorem ReAt.limited {b : Nat} {S : RSt} {arr : Array Value} {v1 : Value} {vs : List Value} {w : World} {F : Nat → Prop} (h : ReAt b S arr v1 vs w F) {t : Nat} (ht : t < 64) (n : Int) :
    ReAt b (limitR S t n) (arr.setIfInBounds (2 + t) (.int .i64 n)) v1 vs (w.setCell ⟨b, 2 + t, none⟩ (.int .i64 n)) F := by
  have hs := h.size
  have hq := h.qlen
  have oth : ∀ q, q ≠ b → (w.setCell ⟨b, 2 + t, none⟩ (.int .i64 n)).heap[q]? = w.heap[q]? := fun q hq => Below.heap_setCell _ _ _ _ (by show q ≠ b; exact hq)
  refine ⟨Joins.block_setCell h.own _, by rw [Array.size_setIfInBounds]; exact hs, by rw [set_at (by omega)]; exact h.c0, by rw [set_at (by omega)]; exact h.c1, fun s hs' => ?_, fun s hs' => by rw [set_at (by omega)]; exact h.c3 s hs', h.few, h.list.keep fun q hq => oth q (fun e => h.list.ne_type h.own (by decide) (by rw [hq, e])), h.len, fun s v hv => (h.rows s v hv).keep fun q hq => oth q (fun e => (h.rows s v hv).ne_type h.own (by decide) (by rw [hq, e])), h.fb, h.f1, h.fv, fun i hi => by simpa [World.setCell] using h.lt i hi, h.apart, by show (S.quota.set t n).length = 64; rw [List.length_set]; exact hq, h.slen⟩
  unfold limitR
  simp only [List.getD_eq_getElem?_getD, List.getElem?_set]
  by_cases e : t = s
  · subst e; rw [if_pos rfl, if_pos (by omega), set_same (by omega)]; rfl
  · rw [if_neg e, set_at (by omega)]
    have := h.c2 s hs'
    rw [List.getD_eq_getElem?_getD] at this
    exact this
def limB (room : Nat) (t n : Int) : Bool := tenB t && decide (0 ≤ n) && decide (n ≤ room)
set_option maxHeartbeats 2000000 in
theorem limitR_any (b : Nat) (S : RSt) (F : Nat → Prop) (t n : Int) (w : World) (h : IsRe b S w F) :
    Calls Try.prog 66 #[.pointer (some ⟨b, 0, none⟩), .int .i64 t, .int .i64 n] w (Mut w F (IsRe b (if limB S.room t n = true then limitR S t.toNat n else S)) (.int .i64 (if limB S.room t n = true then 0 else 3))) := by
  rcases ten_cases t with ⟨k, hk, rfl⟩ | ht
  · have HT := Lib.hid (person_in k hk)
    unfold limB
    rw [tenB_in hk, Bool.true_and, Int.toNat_natCast]
    have HI := Lib.hid h
    obtain ⟨arr, v1, vs, h⟩ := h
    have c0 := (h.cell 0).trans h.c0
    have c2 := (h.cell (2 + k)).trans (h.c2 k hk)
    have f2 : w.frozen? ⟨b, 2 + k, none⟩ = false := Joins.unfrozen_of_block h.own _
    have HM := Lib.hid (h.limited hk n)
    have HK := Lib.hid (Keeps.setCell (p := ⟨b, 2 + k, none⟩) (Keeps.refl F w) (fun _ => h.fb) (.int .i64 n))
    have hk64 : (k : Int) < 64 := by omega
    obtain ⟨room, hroom⟩ : ∃ r, r = S.room := ⟨_, rfl⟩
    rw [← hroom] at c0 ⊢
    clear h hroom
    by_cases hn0 : n < 0
    · have u1 : decide (n < 0) = true := decide_eq_true hn0
      rw [decide_eq_false (show ¬ 0 ≤ n by omega), Bool.false_and, if_neg (by decide), if_neg (by decide)]
      go_enter Try.func66, Try.ntmps66
      go_wp2_with fail
      refine (HT.out _).mono ?_
      rintro e w1 ⟨rfl, rfl⟩
      go_wp2_with fail
      go_ret
      exact Mut.same HI.out
    · have u1 : decide (n < 0) = false := decide_eq_false hn0
      rw [decide_eq_true (show 0 ≤ n by omega), Bool.true_and]
      by_cases hnr : n ≤ room
      · have u2 : decide (n > (room : Int)) = false := decide_eq_false (by omega)
        have u3 : decide ((room : Int) < n) = false := decide_eq_false (by omega)
        rw [decide_eq_true hnr, if_pos rfl, if_pos rfl]
        go_enter Try.func66, Try.ntmps66
        go_wp2_with fail
        refine (HT.out _).mono ?_
        rintro e w1 ⟨rfl, rfl⟩
        go_wp2_with fail
        go_ret
        exact ⟨rfl, F, ⟨_, _, _, HM.out⟩, fun i hi => .inl hi, HK.out⟩
      · have u2 : decide (n > (room : Int)) = true := decide_eq_true (by omega)
        have u3 : decide ((room : Int) < n) = true := decide_eq_true (by omega)
        rw [decide_eq_false hnr, if_neg (by decide), if_neg (by decide)]
        go_enter Try.func66, Try.ntmps66
        go_wp2_with fail
        refine (HT.out _).mono ?_
        rintro e w1 ⟨rfl, rfl⟩
        go_wp2_with fail
        go_ret
        exact Mut.same HI.out
  · have HT := Lib.hid (person_out t ht)
    unfold limB
    rw [tenB_out ht, Bool.false_and, Bool.false_and, if_neg (by decide), if_neg (by decide)]
    have HI := Lib.hid h
    clear h
    go_enter Try.func66, Try.ntmps66
    go_wp2_with fail
    refine (HT.out _).mono ?_
    rintro e w1 ⟨rfl, rfl⟩
    go_wp2_with fail
    go_ret
    exact Mut.same HI.out
set_option maxHeartbeats 2000000 in
theorem limit_any (b : Nat) (S : ArS) (F : Nat → Prop) (t n : Int) (w : World) (h : IsAr b S w F) :
    Calls Try.prog 65 #[.pointer (some ⟨b, 0, none⟩), .int .i64 t, .int .i64 n] w (Mut w F (IsAr b (if limB S.room t n = true then limitA S t.toNat n else S)) (.int .i64 (if limB S.room t n = true then 0 else 3))) := by
  rcases ten_cases t with ⟨k, hk, rfl⟩ | ht
  · have HT := Lib.hid (tenant_in k hk)
    by_cases hok : 0 ≤ n ∧ n ≤ S.room
    · have e : limB S.room k n = true := by unfold limB; rw [tenB_in hk, decide_eq_true hok.1, decide_eq_true hok.2]; rfl
      rw [if_pos e, if_pos e, Int.toNat_natCast]
      exact limit_yes b S F k n w h hk hok.1 hok.2
    · have e : ¬ limB S.room k n = true := by
        unfold limB
        intro e
        simp only [Bool.and_eq_true, decide_eq_true_eq] at e
        exact hok ⟨e.1.2, e.2⟩
      rw [if_neg e, if_neg e]
      have HI := Lib.hid h
      obtain ⟨arr, v1, v3, bm, m, fr, g, vs, h⟩ := h
      have c0 := (h.cell 0).trans h.c0
      obtain ⟨room, hroom⟩ : ∃ r, r = S.room := ⟨_, rfl⟩
      rw [← hroom] at c0 hok
      clear h hroom e
      by_cases hn0 : n < 0
      · have u1 : decide (n < 0) = true := decide_eq_true hn0
        clear hok
        go_enter Try.func65, Try.ntmps65
        go_wp2_with fail
        refine (HT.out _).mono ?_
        rintro e w1 ⟨rfl, rfl⟩
        go_wp2_with fail
        go_ret
        exact Mut.same HI.out
      · have u1 : decide (n < 0) = false := decide_eq_false hn0
        have u2 : decide (n > (room : Int)) = true := decide_eq_true (by omega)
        have u3 : decide ((room : Int) < n) = true := decide_eq_true (by omega)
        clear hok
        go_enter Try.func65, Try.ntmps65
        go_wp2_with fail
        refine (HT.out _).mono ?_
        rintro e w1 ⟨rfl, rfl⟩
        go_wp2_with fail
        go_ret
        exact Mut.same HI.out
  · have HT := Lib.hid (tenant_out t ht)
    unfold limB
    rw [tenB_out ht, Bool.false_and, Bool.false_and, if_neg (by decide), if_neg (by decide)]
    have HI := Lib.hid h
    clear h
    go_enter Try.func65, Try.ntmps65
    go_wp2_with fail
    refine (HT.out _).mono ?_
    rintro e w1 ⟨rfl, rfl⟩
    go_wp2_with fail
    go_ret
    exact Mut.same HI.out
end Go.Proofs.Ytdmamecfmfhlmaa
