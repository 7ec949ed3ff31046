/-
  made where its list is refused; Cells moved; lists of cells merged: plain lists.
-/
import Derived.Test.YtdmamecfmfhlmaaZQuadPutsQMade
import Derived.Test.YtdmamecfmfhlmaaPlaneMath
namespace Go.Proofs.Ytdmamecfmfhlmaa
set_option maxRecDepth 100000
open Go.RowKit

set_option maxHeartbeats 2000000 in
theorem made_bad (zs : CellL) (a : Option Addr) (c : Nat) (w : World) (hs : Sl w 2 16 a zs.length c (zs.flatMap encCell)) (hbad : (tidyF zs).2 ≠ 0) (hlen : zs.length ≤ 300) :
    Calls Try.prog 10 #[.slice a zs.length c] w fun e w' => (∃ b : Nat, e = .returned (.tuple #[.pointer (some ⟨b, 0, none⟩), .int .i64 0, .int .i64 (tidyF zs).2, .bool true])) ∧ Below w.heap.size w w' := by
  have HN := Lib.hid (arenaNew_any 200000 w (by omega))
  rw [show ((200000 : Nat) : Int) = (200000 : Int) from rfl] at HN
  have HS := Lib.hid hs
  have HBAD := Lib.hid hbad
  obtain ⟨n, hn⟩ : ∃ n, n = zs.length := ⟨_, rfl⟩
  obtain ⟨er, her⟩ : ∃ er, er = (tidyF zs).2 := ⟨_, rfl⟩
  rw [← hn, ← her]
  have HL := Lib.hid hn
  have HER := Lib.hid her
  clear hs hbad hn her
  go_enter Try.func10, Try.ntmps10
  go_wp2_with fail
  with_reducible refine HN.out.mono ?_
  rintro e w1 ⟨arr, rfl, hb, h0, h1, h2, hsz, ha⟩
  have HB := Lib.hid hb
  have HCE := Lib.hid (cells_any zs a c w1 (HS.out.below (by omega) hb))
  unfold Cells at HCE
  rw [← HL.out] at HCE
  clear hb h0 h1 h2 hsz ha
  go_wp2_with fail
  with_reducible refine HCE.out.mono ?_
  rintro e w2 ⟨v, rfl, hb2, hown⟩
  obtain ⟨a2, c2, rfl, hsl⟩ := sl_of_own (bytes := 16) hown (by have := HL.out; omega)
  rw [HL.out] at hsl
  have HF := Lib.hid (from_bad (w.heap.size + 2) 3 zs a2 c2 w2 hsl HBAD.out)
  rw [← HL.out, ← HER.out, show ((3 : Nat) : Int) = (3 : Int) from rfl] at HF
  have HB2 := Lib.hid (HB.out.trans (hb2.mono HB.out.size))
  clear hb2 hown hsl
  go_wp2_with fail
  with_reducible refine HF.out.mono ?_
  rintro e w3 ⟨rfl, hb3⟩
  have HB3 := Lib.hid (HB2.out.trans (hb3.mono HB2.out.size))
  clear hb3
  go_wp2_with fail
  refine bodyPost_ret (v := .tuple #[.pointer (some ⟨w.heap.size + 2, 0, none⟩), .int .i64 0, .int .i64 er, .bool true]) (by simp [results, Try.results10, go_sem]) rfl ?_
  exact ⟨⟨_, rfl⟩, HB3.out⟩
theorem sl_take {w : World} {a : Option Addr} {cap : Nat} {zs : CellL} (h : Sl w 2 16 a zs.length cap (zs.flatMap encCell)) (m : Nat) : Sl w 2 16 a (zs.take m).length cap ((zs.take m).flatMap encCell) := by
  have hl : (zs.take m).length ≤ zs.length := by rw [List.length_take]; omega
  refine ⟨flat_length (k := 2) (enc := encCell) (fun _ => rfl) _, Nat.le_trans hl h.room, h.fits, h.nil, Nat.le_trans (Nat.mul_le_mul_right _ hl) h.wide, fun hp => ?_⟩
  obtain ⟨b, o, e, hr⟩ := h.row (by omega)
  refine ⟨b, o, e, fun j u hu => hr j u ?_⟩
  have hsplit : zs.flatMap encCell = (zs.take m).flatMap encCell ++ (zs.drop m).flatMap encCell := by rw [← List.flatMap_append, List.take_append_drop]
  rw [hsplit, List.getElem?_append_left (List.getElem?_eq_some_iff.1 hu).1]
  exact hu
theorem Tight.same {base : Nat} {w w' : World} {v : Value} {xs : List (Int × Int)} (h : Tight base w v xs) (he : ∀ g, base ≤ g → g < w.heap.size → w'.heap[g]? = w.heap[g]?) : Tight base w' v xs := by
  rcases h with h | ⟨g, cap, sp, rfl, hh, h0, h1⟩
  · exact .inl h
  · exact .inr ⟨g, cap, sp, rfl, (he g h0 hh.lt).trans hh, h0, h1⟩
theorem quo_grew {n t s : Nat} {S : ArS} (h : Grew s (newS n) S) (ht : t < 64) : S.quo t = n ∧ S.room = n := by
  have hr := h.room
  refine ⟨?_, hr.1⟩
  have : S.quo t = (newS n).quo t := by unfold ArS.quo; rw [hr.2]
  rw [this, newS_quo n ht]
theorem made_bud {S : ArS} {lev len c : Nat} (h : Grew 3 (newS 200000) S) (hl : liveL S.L + miss S.L 3 ≤ 44 + lev * len) (h1 : lev ≤ 41) (h2 : len ≤ 300) (hc : c ≤ 1000) : Bud 3 S c := by
  obtain ⟨q1, q2⟩ := quo_grew h (t := 3) (by omega)
  have hm : lev * len ≤ 41 * 300 := Nat.mul_le_mul h1 h2
  exact ⟨by rw [q2]; omega, by rw [q1]; omega⟩
end Go.Proofs.Ytdmamecfmfhlmaa
namespace Go.Proofs.Ytdmamecfmfhlmaa
set_option maxRecDepth 100000

def moveC (dx dy : Int) (c : Int × Int) : Int × Int := (c.1 + dx, c.2 + dy)
def wideF (d : Int) : Bool := decide (d ≤ -2199023255552) || decide (2199023255552 ≤ d)
/-- P1.3. -/
def shiftF (l : List (Int × Int)) (dx dy : Int) : List (Int × Int) × Int :=
  if (tidyF l).2 ≠ 0 then ([], (tidyF l).2)
  else if wideF dx || wideF dy then ([], 3)
  else if ((tidyF l).1.map (moveC dx dy)).any farC then ([], 3)
  else ((tidyF l).1.map (moveC dx dy), 0)
theorem tidyF_ok {l : List (Int × Int)} (h : (tidyF l).2 = 0) : l.length ≤ 4096 ∧ l.any farC = false ∧ tidyF l = (sortF l, 0) := by
  unfold tidyF at h ⊢
  split at h
  · simp at h
  · next h1 =>
    split at h
    · simp at h
    · next h2 => exact ⟨by omega, by simpa using h2, by rw [if_neg h1, if_neg h2]⟩
theorem tidyF_err (l : List (Int × Int)) : (tidyF l).2 = 0 ∨ ((tidyF l).2 ≠ 0 ∧ (tidyF l).1 = []) := by
  unfold tidyF
  split
  · exact .inr ⟨by simp, rfl⟩
  · split
    · exact .inr ⟨by simp, rfl⟩
    · exact .inl rfl
theorem tidyF_rising (l : List (Int × Int)) : Rising (tidyF l).1 := by
  unfold tidyF
  split
  · exact List.Pairwise.nil
  · split
    · exact List.Pairwise.nil
    · exact rising_sortF l
theorem rising_map {l : List (Int × Int)} (dx dy : Int) (h : Rising l) : Rising (l.map (moveC dx dy)) := by
  unfold Rising at *
  rw [List.pairwise_map]
  refine h.imp fun {a b} hab => ?_
  rw [cellLt_iff] at *
  simp only [moveC]
  omega
theorem shift_tidy (l : List (Int × Int)) (dx dy : Int) : tidyF ((tidyF l).1.map (moveC dx dy)) = if ((tidyF l).1.map (moveC dx dy)).any farC then ([], 3) else ((tidyF l).1.map (moveC dx dy), 0) := by
  have hl := tidyF_length l
  rw [tidyF.eq_1 ((tidyF l).1.map (moveC dx dy)), if_neg (by rw [List.length_map]; omega)]
  split
  · rfl
  · rw [sortF_rising (rising_map dx dy (tidyF_rising l))]

/-- The cells of two rising lists of which keep says yes, merged. -/
def pickF (keep : Bool → Bool → Bool) : List (Int × Int) → List (Int × Int) → List (Int × Int)
  | [], [] => []
  | a :: x, [] => (if keep true false then [a] else []) ++ pickF keep x []
  | [], b :: y => (if keep false true then [b] else []) ++ pickF keep [] y
  | a :: x, b :: y => if cellLt a b then (if keep true false then [a] else []) ++ pickF keep x (b :: y)
    else if cellLt b a then (if keep false true then [b] else []) ++ pickF keep (a :: x) y
    else (if keep true true then [a] else []) ++ pickF keep x y
termination_by x y => x.length + y.length
theorem mem_one {p : Bool} {a c : Int × Int} : c ∈ (if p then [a] else []) ↔ p = true ∧ c = a := by cases p <;> simp
theorem pickF_spec (keep : Bool → Bool → Bool) : ∀ (x y : List (Int × Int)), Rising x → Rising y →
    Rising (pickF keep x y) ∧ ∀ c, c ∈ pickF keep x y ↔ (c ∈ x ∨ c ∈ y) ∧ keep (decide (c ∈ x)) (decide (c ∈ y)) = true
  | [], [], _, _ => by rw [pickF]; exact ⟨List.Pairwise.nil, fun c => by simp⟩
  | a :: x, [], hx, hy => by
    have h1 := List.pairwise_cons.1 hx
    obtain ⟨r, m⟩ := pickF_spec keep x [] h1.2 hy
    have hax : a ∉ x := fun h => by have := h1.1 a h; rw [cellLt_irrefl] at this; cases this
    rw [pickF]
    refine ⟨?_, fun c => ?_⟩
    · cases hk : keep true false
      · simpa using r
      · refine List.pairwise_cons.2 ⟨fun c hc => ?_, r⟩
        have := ((m c).1 hc).1
        simp at this
        exact h1.1 c this
    · rw [List.mem_append, mem_one, m]
      by_cases hc : c = a
      · subst hc; simp [hax]
      · simp [hc]
  | [], b :: y, hx, hy => by
    have h1 := List.pairwise_cons.1 hy
    obtain ⟨r, m⟩ := pickF_spec keep [] y hx h1.2
    have hby : b ∉ y := fun h => by have := h1.1 b h; rw [cellLt_irrefl] at this; cases this
    rw [pickF]
    refine ⟨?_, fun c => ?_⟩
    · cases hk : keep false true
      · simpa using r
      · refine List.pairwise_cons.2 ⟨fun c hc => ?_, r⟩
        have := ((m c).1 hc).1
        simp at this
        exact h1.1 c this
    · rw [List.mem_append, mem_one, m]
      by_cases hc : c = b
      · subst hc; simp [hby]
      · simp [hc]
  | a :: x, b :: y, hx, hy => by
    have h1 := List.pairwise_cons.1 hx
    have h2 := List.pairwise_cons.1 hy
    have hax : a ∉ x := fun h => by have := h1.1 a h; rw [cellLt_irrefl] at this; cases this
    have hby : b ∉ y := fun h => by have := h2.1 b h; rw [cellLt_irrefl] at this; cases this
    rw [pickF]
    split
    · next hab =>
      obtain ⟨r, m⟩ := pickF_spec keep x (b :: y) h1.2 hy
      have hay : a ∉ b :: y := fun h => by
        rcases List.mem_cons.1 h with e | h
        · subst e; rw [cellLt_irrefl] at hab; cases hab
        · have := cellLt_trans hab (h2.1 a h); rw [cellLt_irrefl] at this; cases this
      refine ⟨?_, fun c => ?_⟩
      · cases hk : keep true false
        · simpa using r
        · refine List.pairwise_cons.2 ⟨fun c hc => ?_, r⟩
          rcases ((m c).1 hc).1 with h | h
          · exact h1.1 c h
          · rcases List.mem_cons.1 h with e | h
            · subst e; exact hab
            · exact cellLt_trans hab (h2.1 c h)
      · rw [List.mem_append, mem_one, m]
        by_cases hc : c = a
        · subst hc; simp [hax, hay]
        · simp [hc]
    · next hab =>
      split
      · next hba =>
        obtain ⟨r, m⟩ := pickF_spec keep (a :: x) y hx h2.2
        have hbx : b ∉ a :: x := fun h => by
          rcases List.mem_cons.1 h with e | h
          · subst e; rw [cellLt_irrefl] at hba; cases hba
          · have := cellLt_trans hba (h1.1 b h); rw [cellLt_irrefl] at this; cases this
        refine ⟨?_, fun c => ?_⟩
        · cases hk : keep false true
          · simpa using r
          · refine List.pairwise_cons.2 ⟨fun c hc => ?_, r⟩
            rcases ((m c).1 hc).1 with h | h
            · rcases List.mem_cons.1 h with e | h
              · subst e; exact hba
              · exact cellLt_trans hba (h1.1 c h)
            · exact h2.1 c h
        · rw [List.mem_append, mem_one, m]
          by_cases hc : c = b
          · subst hc; simp [hby, hbx]
          · simp [hc]
      · next hba =>
        have e : a = b := by
          rcases cellLt_total a b with h | h | h
          · exact absurd h hab
          · exact h
          · exact absurd h hba
        subst e
        obtain ⟨r, m⟩ := pickF_spec keep x y h1.2 h2.2
        refine ⟨?_, fun c => ?_⟩
        · cases hk : keep true true
          · simpa using r
          · refine List.pairwise_cons.2 ⟨fun c hc => ?_, r⟩
            rcases ((m c).1 hc).1 with h | h
            · exact h1.1 c h
            · exact h2.1 c h
        · rw [List.mem_append, mem_one, m]
          by_cases hc : c = a
          · subst hc; simp [hax, hby]
          · simp [hc]
termination_by x y => x.length + y.length
/-- P1.2. -/
def mergeF (keep : Bool → Bool → Bool) (l m : List (Int × Int)) : List (Int × Int) × Int :=
  if (tidyF l).2 ≠ 0 then ([], (tidyF l).2)
  else if (tidyF m).2 ≠ 0 then ([], (tidyF m).2)
  else if 4096 < (pickF keep (tidyF l).1 (tidyF m).1).length then ([], 5)
  else (pickF keep (tidyF l).1 (tidyF m).1, 0)
end Go.Proofs.Ytdmamecfmfhlmaa
