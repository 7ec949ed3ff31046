/-
  keys.Mint.
-/
import Derived.Test.YtjbkfkgdpbjliaaDoorFmtHex
import Derived.Test.YtjbkfkgdpbjliaaDoorKeyText
import Derived.Test.YtjbkfkgdpbjliaaDoorTables
import Derived.Test.YtjbkfkgdpbjliaaDoorFoot
namespace Go.Proofs.YtjbkfkgdpbjliaaDoor
set_option maxRecDepth 100000
open Go.RowKit

def MintBad (er : Int) (w : World) (e : Ending) (w' : World) : Prop := e = .returned (.tuple #[.agg #[.int .i64 0, .slice none 0 0], .string ⟨#[]⟩, .int .i64 er]) ∧ Below w.heap.size w w'
def MintOk (s : Nat) (ks : List KeyD) (name : ByteArray) (r d : Int) (w : World) (e : Ending) (w' : World) : Prop :=
  ∃ v', e = .returned (.tuple #[.agg #[.int .i64 ((s : Int) + 1), v'], .string (txt (keyF s d)), .int .i64 0]) ∧ Below w.heap.size w w' ∧ IsSl w' 3 40 v' (ks.length + 1) ((ks ++ [KeyD.mk (txt (keyF s d)) name r]).flatMap encKey)
theorem mint_bad (s : Int) (ks : List KeyD) (name : ByteArray) (r d : Int) (a : Option Addr) (cap : Nat) (w : World) (h : r < 1 ∨ 3 < r ∨ s < 0 ∨ 2147483648 ≤ s) :
    Calls Tryd.prog 4 #[.agg #[.int .i64 s, .slice a ks.length cap], .string name, .int .i64 r, .int .i64 d] w (MintBad 3 w) := by
  have hc : (decide (r < 1) = true ∧ True) ∨ (decide (r < 1) = false ∧ decide (3 < r) = true) ∨ (decide (r < 1) = false ∧ decide (3 < r) = false ∧ decide (s < 0) = true) ∨ (decide (r < 1) = false ∧ decide (3 < r) = false ∧ decide (s < 0) = false ∧ decide (2147483648 ≤ s) = true) := by
    by_cases h1 : r < 1
    · exact .inl ⟨decide_eq_true h1, trivial⟩
    · by_cases h2 : 3 < r
      · exact .inr (.inl ⟨decide_eq_false h1, decide_eq_true h2⟩)
      · by_cases h3 : s < 0
        · exact .inr (.inr (.inl ⟨decide_eq_false h1, decide_eq_false h2, decide_eq_true h3⟩))
        · exact .inr (.inr (.inr ⟨decide_eq_false h1, decide_eq_false h2, decide_eq_false h3, decide_eq_true (by omega)⟩))
  obtain ⟨n, hn⟩ : ∃ n, n = ks.length := ⟨_, rfl⟩
  rw [← hn]
  clear hn h
  rcases hc with ⟨h1, -⟩ | ⟨h1, h2⟩ | ⟨h1, h2, h3⟩ | ⟨h1, h2, h3, h4⟩
  all_goals
    go_enter Tryd.func4, Tryd.ntmps4
    go_wp2_with fail
    refine bodyPost_ret (v := .tuple #[.agg #[.int .i64 0, .slice none 0 0], .string ⟨#[]⟩, .int .i64 3]) (by simp [results, Tryd.results4, go_sem]) rfl ⟨rfl, ?_⟩
    exact ((Below.refl _ _).alloc (Nat.le_refl _) _).alloc (by simp) _
theorem mint_full (s : Nat) (ks : List KeyD) (name : ByteArray) (r d : Int) (a : Option Addr) (cap : Nat) (w : World) (h1 : 1 ≤ r) (h2 : r ≤ 3) (hs : s < 2147483648) (hn : 32 ≤ ks.length) :
    Calls Tryd.prog 4 #[.agg #[.int .i64 s, .slice a ks.length cap], .string name, .int .i64 r, .int .i64 d] w (MintBad 5 w) := by
  have g1 : decide (r < 1) = false := decide_eq_false (by omega)
  have g2 : decide (3 < r) = false := decide_eq_false (by omega)
  have g3 : decide ((s : Int) < 0) = false := decide_eq_false (by omega)
  have g4 : decide (2147483648 ≤ (s : Int)) = false := decide_eq_false (by omega)
  have g5 : decide (2147483648 ≤ s) = false := decide_eq_false (by omega)
  obtain ⟨n, hne⟩ : ∃ n, n = ks.length := ⟨_, rfl⟩
  rw [← hne] at hn ⊢
  have g6 : decide (32 ≤ (n : Int)) = true := decide_eq_true (by omega)
  have g7 : decide (32 ≤ n) = true := decide_eq_true (by omega)
  clear hne
  go_enter Tryd.func4, Tryd.ntmps4
  go_wp2_with fail
  refine bodyPost_ret (v := .tuple #[.agg #[.int .i64 0, .slice none 0 0], .string ⟨#[]⟩, .int .i64 5]) (by simp [results, Tryd.results4, go_sem]) rfl ⟨rfl, ?_⟩
  exact ((Below.refl _ _).alloc (Nat.le_refl _) _).alloc (by simp) _
theorem make_keys (n : Nat) (hn : n ≤ 100) (w : World) :
    (Instr.makeSlice 22 (.int .i64 0) (.int .i64 ((n : Int) + 1))).run Tryd.prog w = .ok (.slice (some ⟨w.heap.size, 0, none⟩) 0 (n + 1)) (w.alloc (.cells (madeCells (Value.agg #[.string ⟨#[]⟩, .string ⟨#[]⟩, .int .i64 0]).cells ((n + 1) * 3)) 36)) := by
  obtain ⟨i0, hi, hz0, hz1, hz2⟩ := info_parts infoKey
  have h := run_make_rowN (P := Tryd.prog) 22 36 i0 _ Tryd.underlying22 hi hz0 .i64 .i64 0 (n + 1) (by omega) (by rw [hz2]; omega) (by omega) w
  rw [hz1, show ((n + 1 : Nat) : Int) = (n : Int) + 1 by omega] at h
  exact h
/-- A new table, whose keys have room for one more. -/
def MadeT (V : World) (N s n : Nat) (wx : World) : Prop := ∃ G, wx.heap[N]? = some (.cells #[.int .i64 ((s : Int) + 1), .slice (some ⟨G, 0, none⟩) 0 (n + 1)] 24 (0, 0)) ∧ wx.heap[G]? = some (.cells (madeCells #[.string ⟨#[]⟩, .string ⟨#[]⟩, .int .i64 0] ((n + 1) * 3)) 36 (0, 0)) ∧ V.heap.size ≤ N ∧ V.heap.size ≤ G ∧ N ≠ G ∧ Below V.heap.size V wx
theorem madeT1 (V : World) (s n : Nat) : MadeT V (V.heap.size + 1) s n ((V.alloc (.cells (madeCells #[.string ⟨#[]⟩, .string ⟨#[]⟩, .int .i64 0] ((n + 1) * 3)) 36)).alloc (.cells #[.int .i64 ((s : Int) + 1), .slice (some ⟨V.heap.size, 0, none⟩) 0 (n + 1)] 24)).drew :=
  ⟨V.heap.size, blk_last _ _ (by simp), blk_alloc (blk_last V _ rfl) _, by omega, by omega, by omega, (((Below.refl _ _).alloc (Nat.le_refl _) _).alloc (by simp) _).drew⟩
theorem madeT2 (V : World) (s n : Nat) : MadeT V V.heap.size s n ((V.alloc (.cells #[.int .i64 ((s : Int) + 1), .slice (some ⟨V.heap.size + 1, 0, none⟩) 0 (n + 1)] 24)).alloc (.cells (madeCells #[.string ⟨#[]⟩, .string ⟨#[]⟩, .int .i64 0] ((n + 1) * 3)) 36)).drew :=
  ⟨V.heap.size + 1, blk_alloc (blk_last V _ rfl) _, blk_last _ _ (by simp), by omega, by omega, by omega, (((Below.refl _ _).alloc (Nat.le_refl _) _).alloc (by simp) _).drew⟩
/-- Behind the first append, ahead of the second. -/
structure MS (w W : World) (N s n G : Nat) (va : Option Addr) (vc : Nat) : Prop where
  below : Below w.heap.size w W
  tab : W.heap[N]? = some (.cells #[.int .i64 ((s : Int) + 1), .slice (some ⟨G, 0, none⟩) 0 (n + 1)] 24 (0, 0))
  res : W.heap[w.heap.size + 1]? = some (.cells #[.int .i64 0, .slice none 0 0] 24 (0, 0))
  far : ∀ g, (Value.slice va n vc).ownBlock = some g → w.heap.size + 2 ≤ g ∧ g ≠ N
theorem mint_first {w wc w1 : World} {N G s n : Nat} {va : Option Addr} {vc : Nat} {FL : List Value} (hB : Below w.heap.size w wc) (hN : wc.heap[N]? = some (.cells #[.int .i64 ((s : Int) + 1), .slice (some ⟨G, 0, none⟩) 0 (n + 1)] 24 (0, 0))) (hx : wc.heap[w.heap.size + 1]? = some (.cells #[.int .i64 0, .slice none 0 0] 24 (0, 0)))
    (hNG : N ≠ G) (hG : w.heap.size + 2 ≤ G) (_hN2 : w.heap.size + 2 ≤ N) (hg : wc.grownBy w1 (Value.slice (some ⟨G, 0, none⟩) 0 (n + 1)).ownBlock) (hr : Row w1 36 3 (.slice va n vc) n FL) (ha : (Value.slice va n vc).ownBlock = (Value.slice (some ⟨G, 0, none⟩) 0 (n + 1)).ownBlock ∨ (Value.slice va n vc).ownBlock = some wc.heap.size) (kd : KeyD) :
    MS w w1 N s n G va vc ∧ Row (w1.alloc (.cells (encKey kd).toArray 36)) 36 3 (.slice va n vc) n FL ∧ Src (w1.alloc (.cells (encKey kd).toArray 36)) 3 (some ⟨w1.heap.size, 0, none⟩) 1 (encKey kd) := by
  have hb : ∀ k, some k ≠ some G → k < wc.heap.size → w1.heap[k]? = wc.heap[k]? := fun k h1 h2 => hg.block k h2 h1
  have hNl := lt_of_block hN
  have hxl := lt_of_block hx
  refine ⟨⟨hB.grown hg hB.size (fun k hk => by have e : some G = some k := hk; cases e; omega), (hb N (by simpa using hNG) hNl).trans hN, (hb _ (by simp; omega) hxl).trans hx, fun g hg2 => ?_⟩, hr.keep fun g hg2 => Below.heap_alloc _ _ _ (hr.lt g hg2), ⟨rfl, fun _ => ⟨_, rfl, fun j u hu => ?_⟩⟩⟩
  · rcases ha with ha | ha
    · rw [ha] at hg2
      cases hg2
      exact ⟨hG, fun e => hNG e.symm⟩
    · rw [ha] at hg2
      cases hg2
      exact ⟨by omega, by omega⟩
  · rw [Addr.add_lit, Nat.zero_add, Joins.cell_of_block (blk_last w1 _ rfl)]
    simpa using hu
theorem mint_second {w w1 w2 : World} {N G s n : Nat} {va : Option Addr} {vc : Nat} {kd : KeyD} (h : MS w w1 N s n G va vc) (hg : (w1.alloc (.cells (encKey kd).toArray 36)).grownBy w2 (Value.slice va n vc).ownBlock) :
    Below w.heap.size w w2 ∧ w2.heap[N]? = some (.cells #[.int .i64 ((s : Int) + 1), .slice (some ⟨G, 0, none⟩) 0 (n + 1)] 24 (0, 0)) ∧ w2.heap[w.heap.size + 1]? = some (.cells #[.int .i64 0, .slice none 0 0] 24 (0, 0)) := by
  have hb1 := h.below.alloc h.below.size (.cells (encKey kd).toArray 36)
  have hNl := lt_of_block h.tab
  have hxl := lt_of_block h.res
  refine ⟨hb1.grown hg hb1.size (fun k hk => by have := (h.far k hk).1; omega), ?_, ?_⟩
  · rw [hg.block N (by simp; omega) (fun e => (h.far N e.symm).2 rfl), Below.heap_alloc _ _ _ hNl]
    exact h.tab
  · rw [hg.block _ (by simp; omega) (fun e => by have := (h.far _ e.symm).1; omega), Below.heap_alloc _ _ _ hxl]
    exact h.res
set_option maxHeartbeats 8000000 in
theorem mint_ok (B s : Nat) (ks : List KeyD) (name : ByteArray) (r d : Int) (a : Option Addr) (cap : Nat) (w : World) (h1 : 1 ≤ r) (h2 : r ≤ 3) (hs : s < 2147483648) (hn : ks.length < 32) (hd : -9223372036854775808 ≤ d ∧ d ≤ 9223372036854775807)
    (hsl : Sl w 3 40 a ks.length cap (ks.flatMap encKey)) (hB : B ≤ w.heap.size) (ht : Tab B w) (hdb : DeB B w) :
    Calls Tryd.prog 4 #[.agg #[.int .i64 s, .slice a ks.length cap], .string name, .int .i64 r, .int .i64 d] w (MintOk s ks name r d w) := by
  obtain ⟨i0, hi, hz0, hz1, hz2⟩ := info_parts infoKey
  have g1 : decide (r < 1) = false := decide_eq_false (by omega)
  have g2 : decide (3 < r) = false := decide_eq_false (by omega)
  have g3 : decide ((s : Int) < 0) = false := decide_eq_false (by omega)
  have g4 : decide (2147483648 ≤ (s : Int)) = false := decide_eq_false (by omega)
  have g5 : decide (2147483648 ≤ s) = false := decide_eq_false (by omega)
  obtain ⟨n, hne⟩ : ∃ n, n = ks.length := ⟨_, rfl⟩
  have HNE := Lib.hid hne
  rw [← hne] at hn hsl ⊢
  have g6 : decide (32 ≤ (n : Int)) = false := decide_eq_false (by omega)
  have g7 : decide (32 ≤ n) = false := decide_eq_false (by omega)
  obtain ⟨X, hX⟩ : ∃ X, X = (w.alloc (.cells #[.int .i64 s, .slice a n cap] 24)).alloc (.cells #[.int .i64 0, .slice none 0 0] 24) := ⟨_, rfl⟩
  have hBX : Below w.heap.size w X := by rw [hX]; exact ((Below.refl _ _).alloc (Nat.le_refl _) _).alloc (by simp) _
  have hX0 : X.heap[w.heap.size]? = some (.cells #[.int .i64 s, .slice a n cap] 24 (0, 0)) := by rw [hX]; exact blk_alloc (blk_last w _ rfl) _
  have hX1 : X.heap[w.heap.size + 1]? = some (.cells #[.int .i64 0, .slice none 0 0] 24 (0, 0)) := by rw [hX]; exact blk_last _ _ (by simp)
  have hXz : X.heap.size = w.heap.size + 2 := by rw [hX]; simp
  have c0 : ∀ x : Grow X, x.val.cell? ⟨w.heap.size, 0, none⟩ = some (.int .i64 s) := Grow.cells (Joins.cell_of_block hX0 0)
  obtain ⟨M, hM⟩ : ∃ M, M = mixN s d := ⟨_, rfl⟩
  have hMl : M < 18446744073709551616 := by rw [hM]; exact mixN_lt s d
  obtain ⟨Y0, hY0⟩ : ∃ Y, Y = txt (Lib.decDigits s) := ⟨_, rfl⟩
  obtain ⟨Y1, hY1⟩ : ∃ Y, Y = txt (numT 16 M) := ⟨_, rfl⟩
  obtain ⟨T, hT⟩ : ∃ T, T = txt (keyF s d) := ⟨_, rfl⟩
  have hTT : (⟨#[33]⟩ : ByteArray) ++ Y0 ++ ⟨#[107]⟩ ++ Y1 = T := by
    rw [hT, hY0, hY1, hM]
    show txt [33] ++ _ ++ txt [107] ++ _ = _
    rw [txt_add, txt_add, txt_add]
    rfl
  have hk0 := fun x : Grow X => itoa_any B s x.val (by omega) (ht.on ((hBX.mono hB).trans (x.below.mono (by omega))))
  have hk1 : ∀ x : Grow X, Calls Tryd.prog 10 #[.int .i64 s, .int .i64 d] x.val fun e w' => e = .returned (.int .u64 (mixN s d : Nat)) ∧ Below x.val.heap.size x.val w' := fun x => (mix_any s d x.val hs hd).mono fun e w' h => ⟨h.1, by rw [h.2]; exact Below.refl _ _⟩
  have hk2 := fun x : Grow X => fmtUint_any B M x.val hMl (by have := x.below.size; omega) (hdb.on ((hBX.mono hB).trans (x.below.mono (by omega))))
  have hs0 : Y0.size ≤ 64 := by rw [hY0, txt_size]; exact decDigits_len64 (by omega)
  have hs1 : Y1.size ≤ 64 := by rw [hY1, txt_size]; exact numT_len (by omega) hMl
  rw [← hY0] at hk0
  rw [← hM] at hk1
  rw [← hY1] at hk2
  have K0 := Lib.hid hk0
  have K1 := Lib.hid hk1
  have K2 := Lib.hid hk2
  have HT := Lib.hid hT
  have n1 : ¬ (9223372036854775807 < 1 + Y0.size) := by omega
  have n2 : ¬ (9223372036854775807 < 1 + Y0.size + 1) := by omega
  have n3 : ¬ (9223372036854775807 < 1 + Y0.size + 1 + Y1.size) := by omega
  have HX := Lib.hid hX
  have HX0 := Lib.hid hX0
  have HX1 := Lib.hid hX1
  have HBX := Lib.hid hBX
  have HTT := Lib.hid hTT
  have HSL := Lib.hid hsl
  clear hne hX hX0 hX1 hBX hM hY0 hY1 hT hk0 hk1 hk2 hTT hsl ht hdb
  go_enter Tryd.func4, Tryd.ntmps4
  go_upto_region 5 with fail
  rw [← HX.out]
  refine wp_region_grow (by kernel_rfl) (by kernel_rfl) ?_
  repeat (go_big_quiet_step (first | (go_at_call 8; with_reducible exact grow_of (K0.out _)) | (go_at_call 10; with_reducible exact grow_of (K1.out _)) | (go_at_call 9; with_reducible exact grow_of (K2.out _))))
  refine wpQuiet_nil ?_
  intro _ hw'
  obtain ⟨x, hx⟩ := hw'
  subst hx
  rw [HTT.out]
  have hB1 := HBX.out.trans (x.below.mono (by omega))
  have hx0 := (x.below.block _ (lt_of_block HX0.out)).trans HX0.out
  have hx1 := (x.below.block _ (lt_of_block HX1.out)).trans HX1.out
  have hxz := x.below.size
  have HB1 := Lib.hid hB1
  obtain ⟨V, hV⟩ : ∃ V, V = x.val := ⟨_, rfl⟩
  rw [← hV] at hx0 hx1 hxz HB1 ⊢
  have HV := Lib.hid hV
  have d0 : V.cell? ⟨w.heap.size, 0, none⟩ = some (.int .i64 s) := Joins.cell_of_block hx0 0
  have d1 : V.cell? ⟨w.heap.size, 1, none⟩ = some (.slice a n cap) := Joins.cell_of_block hx0 1
  have hmk := fun W => make_keys n (by omega) W
  have e0 : V.cell? ⟨w.heap.size + 1, 0, none⟩ = some (.int .i64 0) := Joins.cell_of_block hx1 0
  have e1 : V.cell? ⟨w.heap.size + 1, 1, none⟩ = some (.slice none 0 0) := Joins.cell_of_block hx1 1
  have f1 := fun j => Joins.unfrozen_of_block hx1 j
  have HX0' := Lib.hid hx0
  have HX1' := Lib.hid hx1
  have hwz : w.heap.size + 1 < V.heap.size := by omega
  have hw0 : w.heap.size < V.heap.size := by omega
  have hwr : IntKind.i64.wrap ((n : Int) + 1) = (n : Int) + 1 := by rw [IntKind.wrap_i64]; omega
  clear hV hx0 hx1 hB1 c0 HX0 HX1
  go_upto_region 6 with fail
  go_cut [12] from 48 to 56 (fun s12 wx => ∃ N, s12 = .pointer (some ⟨N, 0, none⟩) ∧ Aside (MadeT V N s n wx))
  case first =>
    go_region
    · go_wp2_with fail
      go_meet
      exact ⟨_, rfl, madeT1 V s n⟩
    · go_wp2_with fail
      go_meet
      exact ⟨_, rfl, madeT2 V s n⟩
  case rest =>
    obtain ⟨N, rfl, HM⟩ := hcut
    obtain ⟨G, m1, m2, m3, m4, m5, m6⟩ := HM.out
    have hz6 := m6.size
    have hx0 := (m6.block _ hw0).trans HX0'.out
    have hx1 := (m6.block _ hwz).trans HX1'.out
    have e2 : wc.cell? ⟨w.heap.size, 1, none⟩ = some (.slice a n cap) := Joins.cell_of_block hx0 1
    have e3 : wc.cell? ⟨N, 0, none⟩ = some (.int .i64 ((s : Int) + 1)) := Joins.cell_of_block m1 0
    have e4 : wc.cell? ⟨N, 1, none⟩ = some (.slice (some ⟨G, 0, none⟩) 0 (n + 1)) := Joins.cell_of_block m1 1
    have hrow : Row wc 36 3 (.slice (some ⟨G, 0, none⟩) 0 (n + 1)) 0 [] := ⟨by simp, .inr ⟨G, 0, n + 1, _, rfl, m2, by omega, by unfold maxLen; omega, by rw [size_madeCells]; omega, by simp⟩⟩
    have hBw := HB1.out.trans (m6.mono HB1.out.size)
    have hsrc := Src.of_sl (HSL.out.below (by omega) hBw)
    have hone : ∀ u ∈ ks.flatMap encKey, u.oneCell' = true := enc_one ks
    have HROW := Lib.hid hrow
    have HSRC := Lib.hid hsrc
    have HONE := Lib.hid hone
    obtain ⟨FL, hFL⟩ : ∃ FL, FL = ks.flatMap encKey := ⟨_, rfl⟩
    rw [← hFL] at HSRC HONE
    have HFL := Lib.hid hFL
    have HBW := Lib.hid hBw
    have HM1 := Lib.hid m1
    have HX1'' := Lib.hid hx1
    have hNl := lt_of_block m1
    have hG2 : w.heap.size + 2 ≤ G := by omega
    have hN2 : w.heap.size + 2 ≤ N := by omega
    have hGl := lt_of_block m2
    have HNG := Lib.hid m5
    have k1 : n ≤ maxLen := by unfold maxLen; omega
    have k2 : n + 1 ≤ maxLen := by unfold maxLen; omega
    clear m1 m2 hrow hsrc hone hFL hBw hx0 hx1 HM m5 m6
    go_upto_region 7 with fail
    go_wp2_with (first | (at_builtin; refine wpList_append_any _ rfl (.tmp 58) (.tmp 60) 22 rfl 36 i0 _ 3 40 Tryd.underlying22 hi hz0 hz1 hz2 rfl (by omega) (.slice (some ⟨G, 0, none⟩) 0 (n + 1)) 0 [] rfl HROW.out a n cap FL rfl HSRC.out HONE.out (by omega) (by omega) _ rfl ?_; intro v1 w1 hrow1 hg1 hat1; rw [Nat.zero_add, List.nil_append] at hrow1; obtain ⟨va, vc, rfl, -, -, -⟩ := hrow1.form; obtain ⟨q1, q4, q5⟩ := mint_first HBW.out HM1.out HX1''.out HNG.out hG2 hN2 hg1 hrow1 hat1 ⟨T, name, r⟩; have Q1 := Lib.hid q1; have Q4 := Lib.hid q4; have Q5 := Lib.hid q5; clear q1 q4 q5 hrow1 hg1 hat1) | (at_builtin; go_loud (refine wpList_append_any _ rfl (.tmp 61) (.tmp 66) 22 rfl 36 i0 _ 3 40 Tryd.underlying22 hi hz0 hz1 hz2 rfl (by omega) (.slice va n vc) n FL rfl Q4.out (some ⟨w1.heap.size, 0, none⟩) 1 1 (encKey ⟨T, name, r⟩) rfl Q5.out (by simp [encKey, Value.oneCell']) (by omega) (by omega) _ rfl ?_; intro v2 w2 hrow2 hg2 hat2; obtain ⟨vb, vd, rfl, -, -, -⟩ := hrow2.form; obtain ⟨q1, q2, q3⟩ := mint_second (kd := ⟨T, name, r⟩) Q1.out hg2; have b0 : w2.cell? ⟨N, 0, none⟩ = some (.int .i64 ((s : Int) + 1)) := Joins.cell_of_block q2 0; have b1 : w2.cell? ⟨N, 1, none⟩ = some (.slice (some ⟨G, 0, none⟩) 0 (n + 1)) := Joins.cell_of_block q2 1; have fb := fun j => Joins.unfrozen_of_block q2 j; have b2 : w2.cell? ⟨w.heap.size + 1, 0, none⟩ = some (.int .i64 0) := Joins.cell_of_block q3 0; have b3 : w2.cell? ⟨w.heap.size + 1, 1, none⟩ = some (.slice none 0 0) := Joins.cell_of_block q3 1; have bne : N ≠ w.heap.size + 1 := (by omega); have fc := fun j => Joins.unfrozen_of_block q3 j; have hR2 := hrow2.sl (bytes := 40) (by omega); have R2 := Lib.hid hR2; have P1 := Lib.hid q1; have P2 := Lib.hid q2; have P3 := Lib.hid q3)))
    obtain ⟨W9, hW9⟩ : ∃ W9, W9 = ((w2.setCell ⟨N, 1, none⟩ (.slice vb (n + 1) vd)).setCell ⟨w.heap.size + 1, 0, none⟩ (.int .i64 ((s : Int) + 1))).setCell ⟨w.heap.size + 1, 1, none⟩ (.slice vb (n + 1) vd) := ⟨_, rfl⟩
    rw [← hW9]
    have hb9 : W9.heap[w.heap.size + 1]? = some (.cells #[.int .i64 ((s : Int) + 1), .slice vb (n + 1) vd] 24 (0, 0)) := by
      have h1 : (w2.setCell ⟨N, 1, none⟩ (.slice vb (n + 1) vd)).heap[w.heap.size + 1]? = some (.cells #[.int .i64 0, .slice none 0 0] 24 (0, 0)) := (Below.heap_setCell _ _ _ _ (by simp only; omega)).trans P3.out
      rw [hW9]
      have := Joins.block_setCell (i := 1) (Joins.block_setCell (i := 0) h1 (.int .i64 ((s : Int) + 1))) (.slice vb (n + 1) vd)
      simpa using this
    have r0 : W9.cell? ⟨w.heap.size + 1, 0, none⟩ = some (.int .i64 ((s : Int) + 1)) := Joins.cell_of_block hb9 0
    have r1 : W9.cell? ⟨w.heap.size + 1, 1, none⟩ = some (.slice vb (n + 1) vd) := Joins.cell_of_block hb9 1
    refine bodyPost_ret (v := .tuple #[.agg #[.int .i64 ((s : Int) + 1), .slice vb (n + 1) vd], .string T, .int .i64 0]) (by simp [results, Tryd.results4, go_sem, r0, r1]) rfl ⟨.slice vb (n + 1) vd, by rw [HT.out], ?_, ?_⟩
    · rw [hW9]
      exact ((P1.out.setCell (by simp only; omega) _).setCell (by simp only; omega) _).setCell (by simp only; omega) _
    · have hr9 : Row W9 36 3 (.slice vb (n + 1) vd) (n + 1) (FL ++ encKey ⟨T, name, r⟩) := hrow2.keep fun g hg => by
        have hne : g ≠ N ∧ g ≠ w.heap.size + 1 := by
          rcases hat2 with h | h
          · rw [h] at hg
            have := Q1.out.far g hg
            exact ⟨this.2, by omega⟩
          · rw [h] at hg
            have hz1 := Q1.out.below.size
            have hN1 := lt_of_block Q1.out.tab
            have hx9 := lt_of_block Q1.out.res
            cases hg
            simp
            omega
        rw [hW9, Below.heap_setCell _ _ _ _ (by simp only; exact hne.2), Below.heap_setCell _ _ _ _ (by simp only; exact hne.2), Below.heap_setCell _ _ _ _ (by simp only; exact hne.1)]
      have := hr9.sl (bytes := 40) (by omega)
      rw [HFL.out, HT.out] at this
      rw [← HNE.out, List.flatMap_append, List.flatMap_cons, List.flatMap_nil, List.append_nil]
      exact this
end Go.Proofs.YtjbkfkgdpbjliaaDoor
