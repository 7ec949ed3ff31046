/-
  arena.Mark; A thing is a tenant's no more: plain, and in memory; arena's lose.
-/
import Derived.Test.YtdmamecfmfhlmaaZArenaPlaysArPut
namespace Go.Proofs.Ytdmamecfmfhlmaa
set_option maxRecDepth 100000
open Go.RowKit

def markA (S : ArS) (t : Nat) : ArS := { S with added := S.added.set t [] }
theorem markA_add {S : ArS} {t : Nat} (h : ArOk S) (ht : t < 64) (s : Nat) : (markA S t).add s = if s = t then [] else S.add s := by
  unfold markA ArS.add
  simp only
  rw [List.getD_eq_getElem?_getD, List.getElem?_set, List.getD_eq_getElem?_getD]
  by_cases e : s = t
  · subst e
    rw [if_pos rfl, if_pos (by rw [h.added]; exact ht), if_pos rfl]; rfl
  · rw [if_neg (Ne.symm e), if_neg e]
theorem ArAt.marked {b : Nat} {S : ArS} {arr : Array Value} {v1 v3 : Value} {bm n t : Nat} {fr : List Nat} {g : AKey → Option Nat} {vs : List Value} {w : World} {F : Nat → Prop} {lv : Nat} {X : Nat → Prop}
    (h : ArAt b S arr v1 v3 bm n fr g vs w F lv X) (ht : t < 64) :
    ArAt b (markA S t) (arr.setIfInBounds (132 + t) (.slice none 0 0)) v1 v3 bm n fr g (vs.set t (.slice none 0 0)) (w.setCell ⟨b, 132 + t, none⟩ (.slice none 0 0)) F lv X := by
  have hs := h.size
  have hlen := h.len
  have blk : ∀ k, k ≠ b → (w.setCell ⟨b, 132 + t, none⟩ (.slice none 0 0)).heap[k]? = w.heap[k]? := fun k hk => Below.heap_setCell _ _ _ _ hk
  have hvt : ∀ (s : Nat) (u : Value), (vs.set t (.slice none 0 0))[s]? = some u → (s = t ∧ u = .slice none 0 0) ∨ (s ≠ t ∧ vs[s]? = some u) := fun s u hu => by
    rw [List.getElem?_set] at hu
    by_cases e : t = s
    · rw [if_pos e] at hu
      split at hu
      · cases hu; exact .inl ⟨e.symm, rfl⟩
      · cases hu
    · rw [if_neg e] at hu; exact .inr ⟨fun h => e h.symm, hu⟩
  have ok := h.ok
  exact { h with
    ok := ⟨ok.room, ok.two, ok.nil0, ok.nil1, ok.long, ok.live, ok.uniq, ok.mask, ok.quota, ok.quotaR, by simp only [markA, List.length_set]; exact ok.added, fun s l hl => by
      simp only [markA, List.getElem?_set] at hl
      split at hl
      · split at hl
        · cases hl; exact Nat.zero_le _
        · cases hl
      · exact ok.few s l hl⟩
    own := Joins.block_setCell h.own _
    size := by rw [Array.size_setIfInBounds, hs]
    c0 := by rw [set_at (by omega)]; exact h.c0
    c1 := by rw [set_at (by omega)]; exact h.c1
    c2 := by rw [set_at (by omega)]; exact h.c2
    c3 := by rw [set_at (by omega)]; exact h.c3
    c4 := fun s hs' => by rw [set_at (by omega)]; exact h.c4 s hs'
    c5 := fun s hs' => by rw [set_at (by omega)]; exact h.c5 s hs'
    c6 := fun s hs' => by
      rw [List.getElem?_set]
      by_cases e : t = s
      · subst e
        rw [set_same (by rw [hs]; omega), if_pos rfl, if_pos (by omega)]
      · rw [set_at (by omega), if_neg e]; exact h.c6 s hs'
    c7 := by rw [set_at (by omega)]; exact h.c7
    list := h.list.keep fun q hq => blk q (fun e => h.n1 (by rw [← e]; exact hq))
    map := h.map.keep (blk bm h.nm)
    free := h.free.keep fun q hq => blk q (fun e => h.n3 (by rw [← e]; exact hq))
    len := by rw [List.length_set]; exact h.len
    rows := fun s u hu => by
      rw [markA_add ok ht]
      rcases hvt s u hu with ⟨rfl, rfl⟩ | ⟨hne, hu'⟩
      · rw [if_pos rfl]; exact Row.nil _ _ _
      · rw [if_neg hne]
        exact (h.rows s u hu').keep fun q hq => blk q (fun e => h.nv hu' (by rw [← e]; exact hq))
    fv := fun s u q hu hq => by
      rcases hvt s u hu with ⟨rfl, rfl⟩ | ⟨hne, hu'⟩
      · cases hq
      · exact h.fv s u q hu' hq
    lt := fun i hi => by simpa [World.setCell] using h.lt i hi
    apart3 := fun s u q hu hq => by
      rcases hvt s u hu with ⟨rfl, rfl⟩ | ⟨hne, hu'⟩
      · cases hq
      · exact h.apart3 s u q hu' hq
    apart := fun s r u z q hsr hu hz hq => by
      rcases hvt s u hu with ⟨rfl, rfl⟩ | ⟨hne, hu'⟩
      · cases hq
      · rcases hvt r z hz with ⟨rfl, rfl⟩ | ⟨hne2, hz'⟩
        · intro e; cases e
        · exact h.apart s r u z q hsr hu' hz' hq }
/-- Mark's answer. -/
theorem mark_any (b : Nat) (S : ArS) (F : Nat → Prop) (t : Int) (w : World) (h : IsAr b S w F) :
    Calls Try.prog 67 #[.pointer (some ⟨b, 0, none⟩), .int .i64 t] w (Mut w F (IsAr b (if tenB t = true then markA S t.toNat else S)) (.int .i64 (if tenB t = true then 0 else 11))) := by
  rcases ten_cases t with ⟨k, hk, rfl⟩ | ht
  · have HT := Lib.hid (tenant_in k hk)
    rw [tenB_in hk, if_pos rfl, if_pos rfl, Int.toNat_natCast]
    obtain ⟨arr, v1, v3, bm, n, fr, g, vs, h⟩ := h
    have hlen := h.len
    obtain ⟨v, hv⟩ : ∃ v, vs[k]? = some v := ⟨_, List.getElem?_eq_getElem (by omega)⟩
    have c6 := (h.cell (132 + k)).trans ((h.c6 k hk).trans hv)
    have f6 : w.frozen? ⟨b, 132 + k, none⟩ = false := Joins.unfrozen_of_block h.own _
    have HM := Lib.hid (h.marked hk)
    have HK := Lib.hid (Keeps.setCell (p := ⟨b, 132 + k, none⟩) (Keeps.refl F w) (fun _ => h.fb) (.slice none 0 0))
    have hk64 : (k : Int) < 64 := by omega
    clear h hv hlen
    go_enter Try.func67, Try.ntmps67
    go_wp2_with fail
    refine (HT.out _).mono ?_
    rintro e w1 ⟨rfl, rfl⟩
    go_wp2_with fail
    go_ret
    exact ⟨rfl, F, ⟨_, _, _, _, _, _, _, _, HM.out⟩, fun i hi => .inl hi, HK.out⟩
  · have HT := Lib.hid (tenant_out t ht)
    have HH := Lib.hid h
    rw [tenB_out ht]
    simp only [Bool.false_eq_true, if_false]
    clear h
    go_enter Try.func67, Try.ntmps67
    go_wp2_with fail
    refine (HT.out _).mono ?_
    rintro e w1 ⟨rfl, rfl⟩
    go_wp2_with fail
    go_ret
    exact Mut.same HH.out
end Go.Proofs.Ytdmamecfmfhlmaa
namespace Go.Proofs.Ytdmamecfmfhlmaa
set_option maxRecDepth 100000
open Go.RowKit

theorem xor_other {m t s : Nat} (h : s ≠ t) : (m ^^^ 2 ^ t).testBit s = m.testBit s := by
  rw [Nat.testBit_xor, Nat.testBit_two_pow]
  simp [Ne.symm h]
theorem xor_same {m t : Nat} (h : m.testBit t = true) : (m ^^^ 2 ^ t).testBit t = false := by
  rw [Nat.testBit_xor, Nat.testBit_two_pow, h]
  simp
theorem xor_lt64 {m t : Nat} (hm : m < 18446744073709551616) (ht : t < 64) : m ^^^ 2 ^ t < 18446744073709551616 := Nat.xor_lt_two_pow (n := 64) hm (Nat.pow_lt_pow_right (by omega) ht)
theorem count_lost {L : List (Option Ent)} {i t : Nat} {x : Ent} (hx : atL L i = some x) (hb : x.ma.testBit t = true) (s : Nat) : countL (L.set i (some { x with ma := x.ma ^^^ 2 ^ t })) s + (if s = t then 1 else 0) = countL L s := by
  have h := countP_set (mine s) L i (some x) (some { x with ma := x.ma ^^^ 2 ^ t }) (atL_some.1 hx)
  unfold countL
  by_cases e : s = t
  · subst e
    rw [if_pos rfl]
    simp only [mine, hb, xor_same hb] at h
    simpa using h
  · rw [if_neg e]
    simp only [mine, xor_other e] at h
    cases hh : x.ma.testBit s
    · simp only [hh, Bool.false_eq_true, if_false] at h; omega
    · simp only [hh, if_true] at h; omega
/-- An entry is a tenant's no more. -/
def loseA (S : ArS) (t i : Nat) : ArS := match atL S.L i with
  | none => S
  | some x => if x.ma.testBit t = true then { S with L := S.L.set i (some { x with ma := x.ma ^^^ 2 ^ t }) } else S
theorem loseA_none {S : ArS} {t i : Nat} (h : atL S.L i = none) : loseA S t i = S := by unfold loseA; rw [h]
theorem loseA_no {S : ArS} {t i : Nat} {x : Ent} (h : atL S.L i = some x) (hb : x.ma.testBit t = false) : loseA S t i = S := by unfold loseA; rw [h]; simp [hb]
theorem loseA_yes {S : ArS} {t i : Nat} {x : Ent} (h : atL S.L i = some x) (hb : x.ma.testBit t = true) : loseA S t i = { S with L := S.L.set i (some { x with ma := x.ma ^^^ 2 ^ t }) } := by unfold loseA; rw [h]; simp [hb]
theorem loseA_ok {S : ArS} {t i : Nat} {x : Ent} (h : ArOk S) (hx : atL S.L i = some x) (hb : x.ma.testBit t = true) (ht : t < 64) (hadd : S.add t = []) : ArOk { S with L := S.L.set i (some { x with ma := x.ma ^^^ 2 ^ t }) } := by
  have hi := atL_lt hx
  have ha : ∀ j, atL (S.L.set i (some { x with ma := x.ma ^^^ 2 ^ t })) j = if i = j then some { x with ma := x.ma ^^^ 2 ^ t } else atL S.L j := fun j => atL_set hi
  have h0 : i ≠ 0 := fun e => by subst e; rw [h.nil0] at hx; cases hx
  have h1 : i ≠ 1 := fun e => by subst e; rw [h.nil1] at hx; cases hx
  refine ⟨h.room, by simp only [List.length_set]; exact h.two, ?_, ?_, by simp only [List.length_set]; exact h.long, by simp only [live_set hx]; exact h.live, ?_, ?_, h.quota, h.quotaR, h.added, ?_⟩
  · simp only [ha]; rw [if_neg h0]; exact h.nil0
  · simp only [ha]; rw [if_neg h1]; exact h.nil1
  · intro a c y z hy hz hk
    simp only [ha] at hy hz
    have key : ∀ (a : Nat) (y : Ent), (if i = a then some { x with ma := x.ma ^^^ 2 ^ t } else atL S.L a) = some y → ∃ y', atL S.L a = some y' ∧ y'.key = y.key := fun a y hy => by
      by_cases e : i = a
      · rw [if_pos e] at hy
        cases hy
        exact ⟨x, by rw [← e]; exact hx, rfl⟩
      · rw [if_neg e] at hy
        exact ⟨y, hy, rfl⟩
    obtain ⟨y', e1, e2⟩ := key a y hy
    obtain ⟨z', e3, e4⟩ := key c z hz
    exact h.uniq a c y' z' e1 e3 (by rw [e2, e4, hk])
  · intro a y hy
    simp only [ha] at hy
    by_cases e : i = a
    · rw [if_pos e] at hy
      cases hy
      exact xor_lt64 (h.mask i x hx) ht
    · rw [if_neg e] at hy
      exact h.mask a y hy
  · intro s l hl
    have hf := h.few s l hl
    have hc := count_lost hx hb s
    simp only
    by_cases e : s = t
    · subst e
      have hl0 : l = [] := by
        have : S.add s = l := by
          unfold ArS.add
          rw [List.getD_eq_getElem?_getD, hl]; rfl
        rw [← this, hadd]
      rw [hl0]; exact Nat.zero_le _
    · rw [if_neg e] at hc
      omega
/-- A thing is lost: what has been stored for it. -/
theorem ArAt.lost {b : Nat} {S : ArS} {arr : Array Value} {v1 v3 : Value} {bm n t i : Nat} {fr : List Nat} {g : AKey → Option Nat} {vs : List Value} {w w' : World} {F : Nat → Prop} {lv : Nat} {X : Nat → Prop} {x : Ent}
    (h : ArAt b S arr v1 v3 bm n fr g vs w F lv X) (hx : atL S.L i = some x) (hb : x.ma.testBit t = true) (ht : t < 64) (hadd : S.add t = []) {c : Nat} (hc : c + 1 = countL S.L t)
    (hown : w'.heap[b]? = some (.cells (arr.setIfInBounds (4 + t) (.int .i64 c)) 91 (0, 0)))
    (hlist : Row w' 86 8 v1 S.L.length (encL (S.L.set i (some { x with ma := x.ma ^^^ 2 ^ t }))))
    (hk : Keeps (fun k => k = b ∨ v1.ownBlock = some k) w w') :
    ArAt b { S with L := S.L.set i (some { x with ma := x.ma ^^^ 2 ^ t }) } (arr.setIfInBounds (4 + t) (.int .i64 c)) v1 v3 bm n fr g vs w' F lv X := by
  have hs := h.size
  have hi := atL_lt hx
  have ha : ∀ j, atL (S.L.set i (some { x with ma := x.ma ^^^ 2 ^ t })) j = if i = j then some { x with ma := x.ma ^^^ 2 ^ t } else atL S.L j := fun j => atL_set hi
  have blk : ∀ k, k < w.heap.size → k ≠ b → v1.ownBlock ≠ some k → w'.heap[k]? = w.heap[k]? := fun k hk1 h1 h2 => hk.block k hk1 (fun e => by rcases e with e | e; exact h1 e; exact h2 e)
  exact { h with
    ok := loseA_ok h.ok hx hb ht hadd
    good := fun j y hy => by
      simp only [ha] at hy
      by_cases e : i = j
      · rw [if_pos e] at hy
        cases hy
        exact h.good i x hx
      · rw [if_neg e] at hy; exact h.good j y hy
    own := hown
    size := by rw [Array.size_setIfInBounds, hs]
    c0 := by rw [set_at (by omega)]; exact h.c0
    c1 := by rw [set_at (by omega)]; exact h.c1
    c2 := by rw [set_at (by omega)]; exact h.c2
    c3 := by rw [set_at (by omega)]; exact h.c3
    c4 := fun s hs' => by
      have hcl := count_lost hx hb s
      simp only
      by_cases e : s = t
      · subst e
        rw [set_same (by rw [hs]; omega)]
        rw [if_pos rfl] at hcl
        have : c = countL (S.L.set i (some { x with ma := x.ma ^^^ 2 ^ s })) s := by omega
        rw [this]
      · rw [if_neg e] at hcl
        have : countL (S.L.set i (some { x with ma := x.ma ^^^ 2 ^ t })) s = countL S.L s := by omega
        rw [set_at (by omega), this]; exact h.c4 s hs'
    c5 := fun s hs' => by rw [set_at (by omega)]; exact h.c5 s hs'
    c6 := fun s hs' => by rw [set_at (by omega)]; exact h.c6 s hs'
    c7 := by rw [set_at (by omega)]; exact h.c7
    list := by simp only [List.length_set]; exact hlist
    map := h.map.keep (blk bm h.map.lt h.nm (map_apart h.map h.list))
    keys := fun k j => by
      simp only [ha]
      rw [h.keys k j]
      by_cases e : i = j
      · subst e
        rw [if_pos rfl]
        constructor
        · rintro ⟨y, h1, h2⟩
          rw [hx] at h1; cases h1
          exact ⟨_, rfl, h2⟩
        · rintro ⟨y, h1, h2⟩
          cases h1
          exact ⟨x, hx, h2⟩
      · rw [if_neg e]
    free := h.free.keep fun q hq => blk q (h.free.lt q hq) (fun e => h.n3 (by rw [← e]; exact hq)) (rows_apart h.free h.list (by decide) hq)
    frees := fun j => by
      simp only [ha, List.length_set]
      rw [h.frees j]
      by_cases e : i = j
      · subst e
        rw [if_pos rfl, hx]
        simp
      · rw [if_neg e]
    rows := fun s u hu => (h.rows s u hu).keep fun q hq => blk q ((h.rows s u hu).lt q hq) (fun e => h.nv hu (by rw [← e]; exact hq)) (rows_apart (h.rows s u hu) h.list (by decide) hq)
    lt := fun k hk' => Nat.lt_of_lt_of_le (h.lt k hk') hk.size }
theorem lose_live {S : ArS} {t i : Nat} : liveL (loseA S t i).L = liveL S.L := by
  unfold loseA
  split
  · rfl
  · next x hx =>
    split
    · exact live_set hx
    · rfl
theorem loseA_len {S : ArS} {t i : Nat} : (loseA S t i).L.length = S.L.length := by
  unfold loseA
  split
  · rfl
  · split
    · simp
    · rfl
theorem loseA_add {S : ArS} {t i s : Nat} : (loseA S t i).add s = S.add s := by
  unfold loseA
  split
  · rfl
  · split <;> rfl
end Go.Proofs.Ytdmamecfmfhlmaa
