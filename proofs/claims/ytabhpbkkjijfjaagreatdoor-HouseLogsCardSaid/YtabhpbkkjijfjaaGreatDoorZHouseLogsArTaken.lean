/-
  A thing becomes a tenant's own: plain, and in memory.
-/
import Derived.Test.YtabhpbkkjijfjaaGreatDoorZHouseLogsArTake
namespace Go.Proofs.YtabhpbkkjijfjaaGreatDoor
set_option maxRecDepth 100000
open Go.RowKit

theorem bit_other {m t s : Nat} (h : s ≠ t) : (m ||| 2 ^ t).testBit s = m.testBit s := by
  rw [Nat.testBit_or, Nat.testBit_two_pow]
  simp [Ne.symm h]
theorem bit_same (m t : Nat) : (m ||| 2 ^ t).testBit t = true := by
  rw [Nat.testBit_or, Nat.testBit_two_pow]
  simp
theorem or_lt {m t : Nat} (hm : m < 18446744073709551616) (ht : t < 64) : m ||| 2 ^ t < 18446744073709551616 := Nat.or_lt_two_pow (n := 64) hm (Nat.pow_lt_pow_right (by omega) ht)
theorem count_taken {L : List (Option Ent)} {i t : Nat} {x : Ent} (hx : atL L i = some x) (hb : x.ma.testBit t = false) (s : Nat) : countL (L.set i (some { x with ma := x.ma ||| 2 ^ t })) s = countL L s + if s = t then 1 else 0 := by
  have h := countP_set (mine s) L i (some x) (some { x with ma := x.ma ||| 2 ^ t }) (atL_some.1 hx)
  unfold countL
  by_cases e : s = t
  · subst e
    rw [if_pos rfl]
    simp only [mine, hb, bit_same] at h
    simpa using h
  · rw [if_neg e]
    simp only [mine, bit_other e] at h
    cases hh : x.ma.testBit s
    · simp only [hh, Bool.false_eq_true, if_false] at h; omega
    · simp only [hh, if_true] at h; omega
theorem live_set {L : List (Option Ent)} {i : Nat} {x y : Ent} (hx : atL L i = some x) : liveL (L.set i (some y)) = liveL L := by
  have h := countP_set Option.isSome L i (some x) (some y) (atL_some.1 hx)
  unfold liveL
  simpa using h
theorem takeA_ok {S : ArS} {i t : Nat} {x : Ent} (h : ArOk S) (hx : atL S.L i = some x) (hb : x.ma.testBit t = false) (ht : t < 64) : ArOk (takeA S t i x) := by
  have hi := atL_lt hx
  have ha : ∀ j, atL (S.L.set i (some { x with ma := x.ma ||| 2 ^ t })) j = if i = j then some { x with ma := x.ma ||| 2 ^ t } else atL S.L j := fun j => atL_set hi
  have h0 : i ≠ 0 := fun e => by subst e; rw [h.nil0] at hx; cases hx
  have h1 : i ≠ 1 := fun e => by subst e; rw [h.nil1] at hx; cases hx
  refine ⟨h.room, by simp only [takeA, List.length_set]; exact h.two, ?_, ?_, by simp only [takeA, List.length_set]; exact h.long, by simp only [takeA, live_set hx]; exact h.live, ?_, ?_, h.quota, h.quotaR, by simp only [takeA, List.length_set]; exact h.added, ?_⟩
  · simp only [takeA, ha]; rw [if_neg h0]; exact h.nil0
  · simp only [takeA, ha]; rw [if_neg h1]; exact h.nil1
  · intro a c y z hy hz hk
    simp only [takeA, ha] at hy hz
    have key : ∀ (a : Nat) (y : Ent), (if i = a then some { x with ma := x.ma ||| 2 ^ t } else atL S.L a) = some y → ∃ y', atL S.L a = some y' ∧ y'.key = y.key := fun a y hy => by
      by_cases e : i = a
      · rw [if_pos e] at hy
        cases hy
        exact ⟨x, by rw [← e]; exact hx, rfl⟩
      · rw [if_neg e] at hy
        exact ⟨y, hy, rfl⟩
    obtain ⟨y', e1, e2⟩ := key a y hy
    obtain ⟨z', e3, e4⟩ := key c z hz
    exact h.uniq a c y' z' e1 e3 (by rw [e2, e4, hk])
  · intro a y hy
    simp only [takeA, ha] at hy
    by_cases e : i = a
    · rw [if_pos e] at hy
      cases hy
      exact or_lt (h.mask i x hx) ht
    · rw [if_neg e] at hy
      exact h.mask a y hy
  · intro s l hl
    simp only [takeA] at hl ⊢
    rw [count_taken hx hb, List.getElem?_set] at *
    by_cases e : t = s
    · subst e
      rw [if_pos rfl] at hl
      split at hl
      · next hlt =>
        simp only [Option.some.injEq] at hl
        subst hl
        have hf := h.few t (S.add t) (by rw [ArS.add, List.getD_eq_getElem?_getD, List.getElem?_eq_getElem hlt]; rfl)
        rw [List.length_append, if_pos rfl]
        simpa using hf
      · cases hl
    · rw [if_neg e] at hl
      have := h.few s l hl
      omega
theorem or_u64m (a b : Nat) (ha : a < 18446744073709551616) (hb : b < 18446744073709551616) : bits .or .u64 (a : Int) (b : Int) = ((a ||| b : Nat) : Int) := by
  have hx : a ||| b < 2 ^ 64 := Nat.or_lt_two_pow (by omega) (by omega)
  have h1 : (BitVec.ofInt 64 (a : Int)).toNat = a := by
    rw [BitVec.ofInt_natCast, BitVec.toNat_ofNat]; exact Nat.mod_eq_of_lt (by omega)
  have h2 : (BitVec.ofInt 64 (b : Int)).toNat = b := by
    rw [BitVec.ofInt_natCast, BitVec.toNat_ofNat]; exact Nat.mod_eq_of_lt (by omega)
  have h3 : bits .or .u64 (a : Int) (b : Int) = IntKind.u64.wrap (((BitVec.ofInt 64 (a : Int) ||| BitVec.ofInt 64 (b : Int)).toNat : Nat) : Int) := rfl
  rw [h3, BitVec.toNat_or, h1, h2, IntKind.wrap_u64]
  omega
theorem or_bit {ma t : Nat} (hm : ma < 18446744073709551616) (ht : t < 64) : bits .or .u64 (ma : Int) (IntKind.u64.wrap (2 ^ t)) = ((ma ||| 2 ^ t : Nat) : Int) := by
  have h2 : 2 ^ t < 18446744073709551616 := Nat.pow_lt_pow_right (n := 64) (by omega) ht
  have e : IntKind.u64.wrap ((2 : Int) ^ t) = ((2 ^ t : Nat) : Int) := by
    rw [IntKind.wrap_u64, show ((2 : Int) ^ t) = ((2 ^ t : Nat) : Int) by rw [Int.natCast_pow]; rfl]
    obtain ⟨p, hp⟩ : ∃ p : Nat, p = 2 ^ t := ⟨_, rfl⟩
    rw [← hp] at h2 ⊢
    omega
  rw [e, or_u64m ma _ hm h2]
theorem encL_set {u o : Option Ent} {k : Nat} {v : Value} (hk : k < 8) (ho : encO o = (encO u).set k v) : ∀ {L : List (Option Ent)} {i : Nat}, L[i]? = some u → (encL L).set (i * 8 + k) v = encL (L.set i o)
  | [], i, h => by simp at h
  | z :: L, 0, h => by
    obtain rfl : z = u := by simpa using h
    unfold encL
    rw [List.set_cons_zero, List.flatMap_cons, List.flatMap_cons, List.set_append_left _ _ (by rw [encO_len]; omega), ho]
    congr 2; omega
  | z :: L, i + 1, h => by
    have ih := encL_set hk ho (L := L) (i := i) (by simpa using h)
    unfold encL at ih ⊢
    rw [List.set_cons_succ, List.flatMap_cons, List.flatMap_cons, List.set_append_right _ _ (by rw [encO_len]; omega), encO_len, ← ih]
    congr 2; omega
theorem encO_mask (x : Ent) (m : Nat) : encO (some { x with ma := m }) = (encO (some x)).set 7 (.int .u64 m) := rfl
/-- A thing is a tenant's own now: what has been stored for it. -/
theorem ArAt.taken {b : Nat} {S : ArS} {arr : Array Value} {v1 v3 v v' : Value} {bm n t i : Nat} {fr : List Nat} {g : AKey → Option Nat} {vs : List Value} {w w' : World} {F : Nat → Prop} {lv : Nat} {X : Nat → Prop} {x : Ent}
    (h : ArAt b S arr v1 v3 bm n fr g vs w F lv X) (hx : atL S.L i = some x) (hb : x.ma.testBit t = false) (ht : t < 64) (hv : vs[t]? = some v)
    (hown : w'.heap[b]? = some (.cells ((arr.setIfInBounds (4 + t) (.int .i64 ((countL S.L t + 1 : Nat) : Int))).setIfInBounds (132 + t) v') 86 (0, 0)))
    (hlist : Row w' 211 8 v1 S.L.length (encL (S.L.set i (some { x with ma := x.ma ||| 2 ^ t }))))
    (hrow : Row w' 3 1 v' ((S.add t).length + 1) ((S.add t ++ [i]).map idV))
    (hvo : ∀ q, v'.ownBlock = some q → v.ownBlock = some q ∨ w.heap.size ≤ q) (hk : Keeps (fun k => k = b ∨ v1.ownBlock = some k ∨ v.ownBlock = some k) w w') :
    ArAt b (takeA S t i x) ((arr.setIfInBounds (4 + t) (.int .i64 ((countL S.L t + 1 : Nat) : Int))).setIfInBounds (132 + t) v') v1 v3 bm n fr g (vs.set t v') w' (fun k => F k ∨ v'.ownBlock = some k) lv X := by
  have hs := h.size
  have hi := atL_lt hx
  have hlen := h.len
  have ha : ∀ j, atL (S.L.set i (some { x with ma := x.ma ||| 2 ^ t })) j = if i = j then some { x with ma := x.ma ||| 2 ^ t } else atL S.L j := fun j => atL_set hi
  have blk : ∀ k, k < w.heap.size → k ≠ b → v1.ownBlock ≠ some k → v.ownBlock ≠ some k → w'.heap[k]? = w.heap[k]? := fun k hk1 h1 h2 h3 => hk.block k hk1 (fun e => by rcases e with e | e | e; exact h1 e; exact h2 e; exact h3 e)
  have hadd : ∀ s, (takeA S t i x).add s = if s = t then S.add t ++ [i] else S.add s := fun s => by
    unfold takeA ArS.add
    simp only
    rw [List.getD_eq_getElem?_getD, List.getElem?_set, List.getD_eq_getElem?_getD, List.getD_eq_getElem?_getD]
    by_cases e : s = t
    · subst e
      rw [if_pos rfl, if_pos (by rw [h.ok.added]; exact ht), if_pos rfl]; rfl
    · rw [if_neg (Ne.symm e), if_neg e]
  have hvr := h.rows t v hv
  have hvt : ∀ (s : Nat) (u : Value), (vs.set t v')[s]? = some u → (s = t ∧ u = v') ∨ (s ≠ t ∧ vs[s]? = some u) := fun s u hu => by
    rw [List.getElem?_set] at hu
    by_cases e : t = s
    · rw [if_pos e] at hu
      split at hu
      · cases hu; exact .inl ⟨e.symm, rfl⟩
      · cases hu
    · rw [if_neg e] at hu; exact .inr ⟨fun h => e h.symm, hu⟩
  have fresh : ∀ (s : Nat) (u : Value) (q : Nat), s ≠ t → vs[s]? = some u → u.ownBlock = some q → v'.ownBlock ≠ some q := fun s u q hne hu hq e => by
    rcases hvo q e with h1 | h1
    · exact h.apart s t u v q hne hu hv hq h1
    · have := (h.rows s u hu).lt q hq; omega
  exact { h with
    ok := takeA_ok h.ok hx hb ht
    good := fun j y hy => by
      simp only [takeA, ha] at hy
      by_cases e : i = j
      · rw [if_pos e] at hy
        cases hy
        exact h.good i x hx
      · rw [if_neg e] at hy; exact h.good j y hy
    own := hown
    size := by rw [Array.size_setIfInBounds, Array.size_setIfInBounds, hs]
    c0 := by rw [set_at (by omega), set_at (by omega)]; exact h.c0
    c1 := by rw [set_at (by omega), set_at (by omega)]; exact h.c1
    c2 := by rw [set_at (by omega), set_at (by omega)]; exact h.c2
    c3 := by rw [set_at (by omega), set_at (by omega)]; exact h.c3
    c4 := fun s hs' => by
      simp only [takeA, count_taken hx hb]
      rw [set_at (by omega)]
      by_cases e : s = t
      · subst e
        rw [set_same (by rw [hs]; omega), if_pos rfl]
      · rw [set_at (by omega), if_neg e]; exact h.c4 s hs'
    c5 := fun s hs' => by rw [set_at (by omega), set_at (by omega)]; exact h.c5 s hs'
    c6 := fun s hs' => by
      rw [List.getElem?_set]
      by_cases e : t = s
      · subst e
        rw [set_same (by rw [Array.size_setIfInBounds, hs]; omega), if_pos rfl, if_pos (by omega)]
      · rw [set_at (by omega), set_at (by omega), if_neg e]; exact h.c6 s hs'
    c7 := by rw [set_at (by omega), set_at (by omega)]; exact h.c7
    list := by simp only [takeA, List.length_set]; exact hlist
    map := h.map.keep (blk bm h.map.lt h.nm (map_apart h.map h.list) (map_apart h.map hvr))
    keys := fun k j => by
      simp only [takeA, ha]
      rw [h.keys k j]
      by_cases e : i = j
      · subst e
        rw [if_pos rfl]
        constructor
        · rintro ⟨y, h1, h2⟩
          rw [hx] at h1; cases h1
          exact ⟨_, rfl, h2⟩
        · rintro ⟨y, h1, h2⟩
          cases h1
          exact ⟨x, hx, h2⟩
      · rw [if_neg e]
    free := h.free.keep fun q hq => blk q (h.free.lt q hq) (fun e => h.n3 (by rw [← e]; exact hq)) (rows_apart h.free h.list (by decide) hq) (fun e => h.apart3 t v q hv e hq)
    frees := fun j => by
      simp only [takeA, ha, List.length_set]
      rw [h.frees j]
      by_cases e : i = j
      · subst e
        rw [if_pos rfl, hx]
        simp
      · rw [if_neg e]
    len := by rw [List.length_set]; exact h.len
    rows := fun s u hu => by
      rw [hadd]
      rcases hvt s u hu with ⟨rfl, rfl⟩ | ⟨hne, hu'⟩
      · rw [if_pos rfl, List.length_append]; exact hrow
      · rw [if_neg hne]
        exact (h.rows s u hu').keep fun q hq => blk q ((h.rows s u hu').lt q hq) (fun e => h.nv hu' (by rw [← e]; exact hq)) (rows_apart (h.rows s u hu') h.list (by decide) hq) (fun e => h.apart s t u v q hne hu' hv hq e)
    fb := .inl h.fb
    fm := .inl h.fm
    f1 := fun q hq => .inl (h.f1 q hq)
    f3 := fun q hq => .inl (h.f3 q hq)
    fv := fun s u q hu hq => by
      rcases hvt s u hu with ⟨rfl, rfl⟩ | ⟨hne, hu'⟩
      · exact .inr hq
      · exact .inl (h.fv s u q hu' hq)
    lt := fun k hk' => by
      rcases hk' with h1 | h1
      · exact Nat.lt_of_lt_of_le (h.lt k h1) hk.size
      · exact hrow.lt k h1
    apart3 := fun s u q hu hq => by
      rcases hvt s u hu with ⟨rfl, rfl⟩ | ⟨hne, hu'⟩
      · intro e
        rcases hvo q hq with h1 | h1
        · exact h.apart3 s v q hv h1 e
        · have := h.free.lt q e; omega
      · exact h.apart3 s u q hu' hq
    apart := fun s r u z q hsr hu hz hq => by
      rcases hvt s u hu with ⟨rfl, rfl⟩ | ⟨hne, hu'⟩
      · rcases hvt r z hz with ⟨rfl, rfl⟩ | ⟨hne2, hz'⟩
        · exact absurd rfl hsr
        · intro e; exact fresh r z q hne2 hz' e hq
      · rcases hvt r z hz with ⟨rfl, rfl⟩ | ⟨hne2, hz'⟩
        · exact fresh s u q hne hu' hq
        · exact h.apart s r u z q hsr hu' hz' hq }
end Go.Proofs.YtabhpbkkjijfjaaGreatDoor
