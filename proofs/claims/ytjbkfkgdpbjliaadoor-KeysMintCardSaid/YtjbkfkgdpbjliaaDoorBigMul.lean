/-
  Whole numbers: mul by a number of one word.
-/
import Derived.Test.YtjbkfkgdpbjliaaDoorBigAdd
namespace Go.Proofs.YtjbkfkgdpbjliaaDoor
set_option maxRecDepth 100000
open Go.RowKit

/-- Block g holds the words ws. -/
def RowL (w : World) (g : Nat) (ws : List Nat) : Prop := w.heap[g]? = some (.cells (ws.map u32V).toArray 66 (0, 0))
theorem RowL.set {w : World} {g : Nat} {ws : List Nat} (h : RowL w g ws) (i x : Nat) : RowL (w.setCell ⟨g, i, none⟩ (u32V x)) g (ws.set i x) := by
  unfold RowL at *
  rw [Joins.block_setCell h]
  simp only [List.setIfInBounds_toArray]
  rw [List.map_set]
theorem RowL.cell {w : World} {g : Nat} {ws : List Nat} (h : RowL w g ws) {i x : Nat} (hx : ws[i]? = some x) : w.cell? ⟨g, i, none⟩ = some (.int .u32 x) := by
  unfold RowL at h
  rw [Joins.cell_of_block h]
  simp [hx, u32V]
theorem set_mid (R : List Nat) (y x : Nat) (zs : List Nat) : (R ++ y :: zs).set R.length x = R ++ x :: zs := by
  rw [List.set_append_right _ _ (Nat.le_refl _), Nat.sub_self, List.set_cons_zero]
set_option maxHeartbeats 4000000 in
theorem mul_any (n d : Nat) (u v : Value) (w : World) (hd0 : 0 < d) (hd1 : d < 4294967296) (hnd : n * d < bigTop) (hu : AbsOf w u n) (hv : AbsOf w v d) :
    Calls Tryd.prog 35 #[u, v] w fun e w' => (∃ r, e = .returned r ∧ AbsOf w' r (n * d)) ∧ Below w.heap.size w w' := by
  have hn : n < bigTop := Nat.lt_of_le_of_lt (Nat.le_mul_of_pos_right n hd0) hnd
  obtain ⟨a, ca, rfl, hsa, _⟩ := hu
  obtain ⟨b, cb, rfl, hsb, _⟩ := hv
  have hwd : wordsN d = [d] := wordsN_one hd0 hd1
  rw [hwd] at hsb ⊢
  rw [show [d].length = 1 from rfl] at hsb ⊢
  obtain ⟨pb, ob, rfl, hrb⟩ := hsb.row (by omega)
  have hcb : w.cell? ⟨pb, ob, none⟩ = some (.int .u32 d) := hrb 0 _ rfl
  by_cases h0 : n = 0
  · subst h0
    rw [wordsN_zero, Nat.zero_mul]
    rw [show ([] : List Nat).length = 0 from rfl]
    clear hsa hsb hrb hcb
    go_enter Tryd.func35, Tryd.ntmps35
    go_wp2_with fail
    go_ret
    exact ⟨⟨.slice none 0 0, rfl, none, 0, rfl, ⟨rfl, Nat.le_refl _, by unfold maxLen; omega, fun _ => rfl, by rw [wordsN_zero]; decide, fun h => absurd h (by simp [wordsN_zero])⟩, fun _ _ _ h => by cases h⟩, Below.refl _ _⟩
  · have hlt := wordsN_lt n
    have hva := wordsN_val n
    have hl2 := wordsN_len hn
    have hl0 : (wordsN n).length ≠ 0 := fun h => h0 (wordsN_nil.1 h)
    obtain ⟨A, hA⟩ : ∃ A, A = wordsN n := ⟨_, rfl⟩
    rw [← hA] at hsa hlt hva hl2 hl0 ⊢
    obtain ⟨la, hLA⟩ : ∃ la, la = A.length := ⟨_, rfl⟩
    rw [← hLA] at hsa hl2 hl0 ⊢
    have HSA := Lib.hid hsa
    have HLA := Lib.hid hLA
    have HTA := Lib.hid hlt
    have HVA := Lib.hid hva
    have hmk := make_words (la + 1) (by omega) w
    rw [show ((la + 1 : Nat) : Int) = (la : Int) + 1 from rfl] at hmk
    have hz1 : ((la : Int) == 0) = false := by simp; omega
    have hz2 : (la == 0) = false := by simp; omega
    clear hsa hsb hrb hA hLA hlt hva hwd hnd h0
    go_enter Tryd.func35, Tryd.ntmps35
    go_wp2_with fail
    obtain ⟨W, hW⟩ : ∃ W, W = w.alloc (.cells (zerosW (la + 1)) 66) := ⟨_, rfl⟩
    have hR0 : RowL W w.heap.size (([] : List Nat) ++ 0 :: List.replicate la 0) := by rw [hW]; exact blk_last w _ rfl
    have hB0 : Below w.heap.size w W := by rw [hW]; exact (Below.refl _ _).alloc (Nat.le_refl _) _
    have hpb : pb < w.heap.size := block_lt_of_cell hcb
    rw [← hW]
    clear hW hmk
    go_loopw [6] (fun i wr => ∃ (k kk : Nat) (R : List Nat), i = .int .i64 k ∧ k ≤ la ∧ Aside (MulSt A R d k kk) ∧ Aside (RowL wr w.heap.size (R ++ kk :: List.replicate (la - k) 0)) ∧ Below w.heap.size w wr) (fun i _ => la - (intOf i).toNat)
    case atStart => exact ⟨0, 0, [], rfl, Nat.zero_le _, MulSt.start _ _, hR0, hB0⟩
    case round =>
      clear hR0 hB0
      obtain ⟨k, kk, R, rfl, hk, HST, HR, hBw⟩ := hrel
      have hkk := HST.out.top
      have hRl := HST.out.len
      by_cases hlt : k < la
      · have hdk : decide (k < la) = true := decide_eq_true (by omega)
        obtain ⟨x, hx⟩ : ∃ x, A[k]? = some x := ⟨A[k]'(by have := HLA.out; omega), by simp⟩
        have hx1 : x < 4294967296 := HTA.out x (List.mem_of_getElem? hx)
        obtain ⟨s, hs⟩ : ∃ s, s = x * d + kk := ⟨_, rfl⟩
        have hs1 : s < 18446744073709551616 := by rw [hs]; exact mul_small hx1 hd1 hkk
        have HN := Lib.hid (HST.out.next hx hx1 hd1)
        rw [← hs] at HN
        have hcc : s / 4294967296 < 4294967296 := by omega
        obtain ⟨y, hy⟩ : ∃ y, y = s % 4294967296 := ⟨_, rfl⟩
        obtain ⟨cc, hc⟩ : ∃ cc, cc = s / 4294967296 := ⟨_, rfl⟩
        rw [← hc] at hcc
        rw [← hy, ← hc] at HN
        obtain ⟨Z, hZ⟩ : ∃ Z, Z = List.replicate (la - k) 0 := ⟨_, rfl⟩
        have HZ := Lib.hid hZ
        rw [← hZ] at HR
        obtain ⟨V, hV⟩ : ∃ V, V = wr := ⟨_, rfl⟩
        subst hV
        clear hZ
        go_wp2_with fail
        go_loopw [7, 8] (fun c j wr => Below w.heap.size w wr ∧ ((c = .int .u64 0 ∧ j = .int .i64 0 ∧ Aside (RowL wr w.heap.size (R ++ kk :: Z))) ∨ (c = .int .u64 cc ∧ j = .int .i64 1 ∧ Aside (RowL wr w.heap.size (R ++ y :: Z))))) (fun _ j _ => (1 - intOf j).toNat)
        case atStart => exact ⟨hBw, .inl ⟨rfl, rfl, HR⟩⟩
        case round =>
          clear hBw HR
          obtain ⟨hBw, ⟨rfl, rfl, HR⟩ | ⟨rfl, rfl, HR⟩⟩ := hrel
          · obtain ⟨p, o, rfl, hr⟩ := (HSA.out.below (by omega) hBw).row (by omega)
            have hc0 : wr.drew.cell? ⟨p, o + k, none⟩ = some (.int .u32 x) := hr k _ (by rw [List.getElem?_map, hx]; rfl)
            have hc1 : wr.drew.cell? ⟨pb, ob, none⟩ = some (.int .u32 d) := by rw [← hcb]; exact hBw.drew.cell hpb
            have hc2 : wr.drew.cell? ⟨w.heap.size, k, none⟩ = some (.int .u32 kk) := HR.out.cell (by rw [← hRl, List.getElem?_append_right (Nat.le_refl _), Nat.sub_self]; rfl)
            have fr : wr.drew.frozen? ⟨w.heap.size, k, none⟩ = false := Joins.unfrozen_of_block HR.out k
            have fr' : wr.frozen? ⟨w.heap.size, k, none⟩ = false := Joins.unfrozen_of_block HR.out k
            have hset : RowL (wr.drew.setCell ⟨w.heap.size, k, none⟩ (.int .u32 (y : Nat))) w.heap.size (R ++ y :: Z) := by
              have h := RowL.set (w := wr.drew) HR.out k y
              rw [← hRl, set_mid] at h
              rw [← hRl]; exact h
            have HSET := Lib.hid hset
            have HB2 := Lib.hid (hBw.drew.setCell (p := ⟨w.heap.size, k, none⟩) (Nat.le_refl _) (.int .u32 (y : Nat)))
            have hxd : (x : Int) * (d : Int) = ((x * d : Nat) : Int) := by simp
            obtain ⟨t, ht⟩ : ∃ t, t = x * d := ⟨_, rfl⟩
            rw [← ht] at hs hxd
            have ht1 : t < 18446744073709551616 := by omega
            have hsI : (t : Int) + (kk : Int) = (s : Int) := by omega
            have hyI : (s : Int) % 4294967296 = (y : Int) := by omega
            have hcI : (s : Int) / 4294967296 = (cc : Int) := by omega
            have hgl : w.heap.size < wr.heap.size := lt_of_block HR.out
            clear hx hr hset ht hs hy hc
            go_wp2_with fail
            go_region
            go_wp2_with fail
            exact ⟨⟨HB2.out, .inr ⟨rfl, rfl, HSET.out⟩⟩, by simp [intOf]⟩
          · obtain ⟨f, hf⟩ : ∃ f, la - k = f + 1 := ⟨la - k - 1, by omega⟩
            have hrow : RowL wr w.heap.size ((R ++ [y]) ++ 0 :: List.replicate (la - (k + 1)) 0) := by
              have h := HR.out
              rw [HZ.out, hf, List.replicate_succ] at h
              rw [show la - (k + 1) = f by omega]
              simpa using h
            have hc2 : wr.cell? ⟨w.heap.size, k + 1, none⟩ = some (.int .u32 0) := hrow.cell (by rw [List.getElem?_append_right (by simp; omega)]; simp [hRl])
            have fr : wr.frozen? ⟨w.heap.size, k + 1, none⟩ = false := Joins.unfrozen_of_block HR.out (k + 1)
            have hset : RowL (wr.setCell ⟨w.heap.size, k + 1, none⟩ (.int .u32 (cc : Nat))) w.heap.size ((R ++ [y]) ++ cc :: List.replicate (la - (k + 1)) 0) := by
              have h := hrow.set (k + 1) cc
              have hl : (R ++ [y]).length = k + 1 := by rw [List.length_append, hRl]; rfl
              rw [← hl, set_mid] at h
              rw [← hl]; exact h
            have HSET := Lib.hid hset
            have HB2 := Lib.hid (hBw.setCell (p := ⟨w.heap.size, k + 1, none⟩) (Nat.le_refl _) (.int .u32 (cc : Nat)))
            have hgl : w.heap.size < wr.heap.size := lt_of_block HR.out
            clear hx hset hrow hs hy hc hf
            go_wp2_with fail
            exact ⟨⟨k + 1, cc, R ++ [y], by go_num, by omega, HN.out, HSET.out, HB2.out⟩, by simp [intOf]; omega⟩
      · obtain rfl : la = k := by omega
        have hdk : decide (la < la) = false := decide_eq_false (by omega)
        have hen := HST.out.ends HLA.out.symm
        have hrow : RowL wr w.heap.size (R ++ [kk]) := by
          have h := HR.out
          rwa [Nat.sub_self, List.replicate_zero] at h
        have hlR : (R ++ [kk]).length = la + 1 := by rw [List.length_append, hRl]; rfl
        have hT := trim_any (R ++ [kk]) (some ⟨w.heap.size, 0, none⟩) (R ++ [kk]).length wr (by omega) hen.2 (sl_fresh (ty := 66) hrow (by omega)) (fun b o x hx => by cases hx; exact ⟨_, _, hrow⟩)
        rw [hen.1, HVA.out, hlR] at hT
        have HT := Lib.hid hT
        clear hrow hT hen
        go_wp2_with fail
        refine HT.out.mono ?_
        rintro e w' ⟨⟨v, rfl, hv⟩, rfl⟩
        have HAV := Lib.hid hv
        clear hv
        go_wp2_with fail
        go_ret
        exact ⟨⟨v, rfl, HAV.out⟩, hBw⟩
end Go.Proofs.YtjbkfkgdpbjliaaDoor
