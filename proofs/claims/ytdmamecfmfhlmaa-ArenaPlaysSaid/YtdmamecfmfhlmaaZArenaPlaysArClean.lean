/-
  arena's Clean.
-/
import Derived.Test.YtdmamecfmfhlmaaZArenaPlays20
namespace Go.Proofs.Ytdmamecfmfhlmaa
set_option maxRecDepth 100000
open Go.RowKit

def lenW : Value → Nat
  | .slice _ n _ => n
  | _ => 0
theorem make_kept (W : World) : (Instr.makeMap 135 none).run Try.prog W = .ok (.map (some W.heap.size)) (W.alloc (.map #[] 0)) := rfl
set_option maxHeartbeats 4000000 in
set_option maxRecDepth 100000 in
theorem clean_in (b : Nat) (S : ArS) (F : Nat → Prop) (t : Nat) (ht : t < 64) (rs : List Int) (A : Option Addr) (n cp : Nat) (w : World) (h : IsAr b S w F) (hs : Src w 1 A n (rs.map intV)) (h64 : ∀ r ∈ rs, I64 r) (hn : n ≤ 1000000) :
    Calls Try.prog 71 #[.pointer (some ⟨b, 0, none⟩), .int .i64 t, .slice A n cp] w fun e w' => ∃ K, (∀ i, i ∈ K ↔ Reach S.L t rs i) ∧ Mut w F (IsAr b (cleanA S t K)) (.int .i64 ((countL S.L t : Int) - countL (cleanA S t K).L t)) e w' := by
  obtain ⟨i0, hi, hz0, hz1, hz2⟩ := info_parts infoNum
  have HT := Lib.hid (tenant_in t ht)
  have hrn : rs.length = n := by have := hs.1; simpa using this
  obtain ⟨W1, hW1⟩ : ∃ W, W = w.alloc (.map #[] 0) := ⟨_, rfl⟩
  have hb1 : Below w.heap.size w W1 := by rw [hW1]; exact (Below.refl _ _).alloc (Nat.le_refl _) _
  have hmb := MapOf.new intV I64 w 200010
  rw [← hW1] at hmb
  have hsz1 : W1.heap.size = w.heap.size + 1 := by rw [hW1]; simp
  have hA1 := h.below hb1
  have hs1 : Src W1 1 A n (rs.map intV) := hs.below fun p hp => by obtain ⟨v, hv⟩ := Option.isSome_iff_exists.1 hp; exact hb1.cell (World.block_lt_of_cell? w _ hv)
  have HS := Lib.hid hs1
  have HW1 := Lib.hid hW1
  have HB1 := Lib.hid hb1
  have HM := Lib.hid hmb
  have HA1 := Lib.hid hA1
  have HSZ := Lib.hid hsz1
  have HI64 := Lib.hid h64
  have HRN := Lib.hid hrn
  have HO := Lib.hid h
  have one : ∀ u ∈ rs.map intV, u.oneCell' = true := fun u hu => by
    obtain ⟨i, _, rfl⟩ := List.mem_map.1 hu
    rfl
  have ONE := Lib.hid one
  have htI : (t : Int) < 64 := by omega
  have ht0 : (0 : Int) ≤ (t : Int) := by omega
  have M1 := Lib.hid (show 0 + n ≤ maxLen by unfold maxLen; omega)
  have M2 := Lib.hid (show (0 + n) * 8 ≤ 140737488355328 by omega)
  clear h hs hW1 hb1 hmb hsz1 hA1 hs1 h64 hrn one
  have hmk := make_kept
  go_enter Try.func71, Try.ntmps71
  go_wp2_with fail
  refine (HT.out _).mono ?_
  rintro e w1 ⟨rfl, rfl⟩
  go_upto_region 4 with fail
  rw [← HW1.out]
  go_wp2_with ((at_builtin; go_loud (refine wpList_append_any _ rfl (.const (.slice none 0 0)) (.tmp 24) 57 rfl 3 i0 _ 1 8 Try.underlying57 hi hz0 hz1 hz2 rfl (by omega) (.slice none 0 0) 0 [] rfl (Row.nil _ _ _) A n cp (rs.map intV) rfl HS.out ONE.out M1.out M2.out _ rfl ?_; intro v w2 hrow hg hat)))
  go_loopw [8, 9, 10, 11] (fun v _ _ _ ws => ∃ K W, Aside (Work S.L t rs K W) ∧ Aside (CleanSt b w1.heap.size w1.heap.size S F K W v ws) ∧ W.length ≤ n + 4 * K.length ∧ Below w1.heap.size w1 ws) (fun v _ _ _ ws => 5 * (S.L.length - keptN ws w1.heap.size S.L.length) + lenW v)
  case atStart =>
    clear hmk
    refine ⟨[], rs, Work.start, ⟨HA1.out.keep (Keeps.grown (F := fun _ => False) (Keeps.refl _ _) hg (fun g hg' _ => by simp [Value.ownBlock] at hg')) (fun _ _ h => h), ⟨200010, ?_⟩, ?_, ?_, ?_, Nat.le_refl _, HI64.out⟩, by rw [HRN.out]; omega, ?_⟩
    · have hm := HM.out.keep (w' := w2) (hg.block w1.heap.size (by have := HSZ.out; omega) (by simp [Value.ownBlock]))
      exact hm
    · rw [HRN.out]
      rw [Nat.zero_add, List.nil_append] at hrow
      exact hrow
    · intro hF
      have := HO.out.lt _ hF
      omega
    · intro q hq
      have hz := HSZ.out
      rw [hq] at hat
      rcases hat with e | e
      · simp [Value.ownBlock] at e
      · obtain rfl : q = W1.heap.size := Option.some.inj e
        omega
    · exact HB1.out.trans ((Keeps.grown (F := fun _ => False) (Keeps.refl _ _) hg (fun g hg' _ => by simp [Value.ownBlock] at hg')).toBelow (fun _ h => h.elim) HB1.out.size)
  case round =>
    obtain ⟨K, W, HW, HC, hlen, hbl⟩ := hrel
    have hfew := HW.out.few
    have hN : S.L.length ≤ 200002 := by have := HO.out.ok.long; have := HO.out.ok.room; omega
    clear hrow hg hat
    obtain ⟨a, c1, rfl, hcl, -, -⟩ := HC.out.row.form
    rcases List.eq_nil_or_concat W with rfl | ⟨W', c, rfl⟩
    · have hu1 : decide ((0 : Int) > 0) = false := rfl
      have hu1' : decide ((0 : Nat) > 0) = false := rfl
      have HDONE := Lib.hid HW.out.done
      obtain ⟨vv, c4, hU0⟩ := UndoSt.start HC.out.ar ht
      obtain ⟨nm, hmap⟩ := HC.out.map
      have hd1 := HC.out.d1
      have hcb : countL S.L t ≤ 300000 := by have := countL_le S.L t; have := HO.out.ok.live; have := HO.out.ok.room; omega
      obtain ⟨cn, hcn⟩ : ∃ cn, cn = countL S.L t := ⟨_, rfl⟩
      rw [← hcn] at c4 hcb
      obtain ⟨N, hNN⟩ : ∃ N, N = S.L.length := ⟨_, rfl⟩
      have hN2 : 2 ≤ N := by rw [hNN]; exact HO.out.ok.two
      have hNb : N ≤ 200002 := by omega
      have HU0 := Lib.hid hU0
      have HCN := Lib.hid hcn
      have HNE := Lib.hid hNN
      have HMAP := Lib.hid hmap
      have HD1 := Lib.hid hd1
      have HBL := Lib.hid hbl
      have HMK := Lib.hid (show (markA S t).L.length = N ∧ liveL (markA S t).L = liveL S.L from ⟨hNN.symm, rfl⟩)
      obtain ⟨mb, hmb⟩ : ∃ mb, mb = w1.heap.size := ⟨_, rfl⟩
      rw [← hmb] at HMAP HD1 ⊢
      clear hU0 hmap hd1 hbl hfew hN hNN hlen hcn hmb
      simp only [List.length_nil] at *
      go_upto_region 13 with fail
      go_wp2_with fail
      go_loopw [13, 14, 15] (fun iv _ _ ws => ∃ k : Nat, iv = .int .i64 k ∧ 2 ≤ k ∧ k ≤ N ∧ Aside (UndoSt b t wr F (loseN t ((List.range' 2 (k - 2)).filter fun i : Nat => !K.contains (i : Int)) (markA S t)) (liveL S.L) vv (S.add t) ws)) (fun iv _ _ _ => N - (intOf iv).toNat)
      case atStart => exact ⟨2, rfl, Nat.le_refl _, hN2, HU0.out⟩
      case round =>
        obtain ⟨k, rfl, h2k, hkN, HU⟩ := hrel
        obtain ⟨q, o, c5, hl1⟩ := HU.out.list
        rw [loseN_len, HMK.out.1] at hl1
        by_cases hk : k < N
        · have hu2 : decide ((k : Int) < (N : Int)) = true := decide_eq_true (by omega)
          have hkm := HMAP.out.keep (HU.out.keep.block mb HMAP.out.lt HD1.out)
          have hlook := MapOf.look_ok int_keyedV (t := 135) (e := 136) (z := .agg #[]) Try.underlying135 (fun u => by kernel_rfl) hkm (a := (k : Int)) (by unfold I64; omega)
          obtain ⟨X, hX⟩ : ∃ X, X = wr.alloc (.cells #[] 136 (0, 0)) := ⟨_, rfl⟩
          have hbX : Below wr.heap.size wr X := by rw [hX]; exact (Below.refl _ _).alloc (Nat.le_refl _) _
          have HUX := Lib.hid (HU.out.below hbX)
          have HXE := Lib.hid hX
          have hsn := others_snoc (K := K) h2k
          clear hX hbX hkm
          by_cases hkK : (k : Int) ∈ K
          · have e : keptF K k = some (.agg #[]) := by unfold keptF; rw [if_pos hkK]
            rw [e] at hlook
            simp only [Option.getD_some, Option.isSome_some] at hlook
            unfold intV at hlook
            have hcc : K.contains (k : Int) = true := by simpa using hkK
            rw [hcc, if_pos rfl, List.append_nil] at hsn
            have HSN := Lib.hid hsn
            clear e hsn hcc hkK
            go_wp2_with fail
            rw [← HXE.out]
            go_wp2_with fail
            refine ⟨⟨k + 1, by go_num, by omega, hk, by rw [HSN.out]; exact HUX.out⟩, by simp [intOf]; omega⟩
          · have e : keptF K k = none := by unfold keptF; rw [if_neg hkK]
            rw [e] at hlook
            simp only [Option.getD_none, Option.isSome_none] at hlook
            unfold intV at hlook
            have hcc : K.contains (k : Int) = false := by simpa using hkK
            rw [hcc, if_neg (by decide)] at hsn
            have HSN := Lib.hid hsn
            have HLO := Lib.hid (HUX.out.lose ht (i := k) (by rw [loseN_len, HMK.out.1]; exact hk))
            clear e hsn hcc hkK
            go_wp2_with fail
            rw [← HXE.out]
            go_wp2_with fail
            refine HLO.out.mono ?_
            rintro e w4 ⟨rfl, hu⟩
            have HU4 := Lib.hid hu
            clear hu
            go_wp2_with fail
            refine ⟨⟨k + 1, by go_num, by omega, hk, by rw [HSN.out, loseN_snoc]; exact HU4.out⟩, by simp [intOf]; omega⟩
        · have hkN' : k = N := by omega
          subst hkN'
          have hu2 : decide ((k : Int) < (k : Int)) = false := decide_eq_false (by omega)
          have hu3 : decide (k < k) = false := decide_eq_false (by omega)
          obtain ⟨x1, x2, x3, x4, x5, x6⟩ := HU.out.end ht (by rw [loseN_live, HMK.out.2])
          have hcl : cleanA S t K = loseN t ((List.range' 2 (k - 2)).filter fun i : Nat => !K.contains (i : Int)) (markA S t) := by unfold cleanA othersOf; rw [← HNE.out]
          rw [← hcl] at x4 x5
          have hle : countL (cleanA S t K).L t ≤ cn := by rw [HCN.out]; unfold cleanA; exact undo_counts t _ (markA S t)
          obtain ⟨c', hc'⟩ : ∃ c', c' = countL (cleanA S t K).L t := ⟨_, rfl⟩
          rw [← hc'] at x4 hle
          have HC' := Lib.hid hc'
          have HX5 := Lib.hid x5
          have HX6 := Lib.hid x6
          clear hcl x5 x6 hc'
          obtain ⟨av, cv, rfl, -⟩ := HU.out.row.form
          go_wp2_with fail
          go_ret
          refine ⟨K, HDONE.out, by rw [← HC'.out, ← HCN.out]; rfl, F, HX5.out, fun i hi => .inl hi, ?_⟩
          exact ((Keeps.of_below (F := F) HBL.out)).trans HX6.out (fun _ _ h => h)
    · rw [List.concat_eq_append] at *
      obtain ⟨m, hm⟩ : ∃ m, m = W'.length := ⟨_, rfl⟩
      have hml : (W' ++ [c]).length = m + 1 := by simp [hm]
      rw [hml] at HC hlen hcl ⊢
      have hcl' : m ≤ c1 := by omega
      obtain ⟨HP, g, o, rfl, cc, hgl, hgf⟩ := HC.out.pop (by rw [hm])
      rw [← hm] at cc HP
      obtain ⟨nm, hmap⟩ := HC.out.map
      have hc64 : I64 c := HC.out.i64 c (by simp)
      have hlook := MapOf.look_ok int_keyedV (t := 135) (e := 136) (z := .agg #[]) Try.underlying135 (fun u => by kernel_rfl) hmap hc64
      have hmW : m ≤ 2000000 := by omega
      have hu1 : decide ((m : Int) + 1 > 0) = true := decide_eq_true (by omega)
      have HPA := Lib.hid HP
      have HM2 := Lib.hid hm
      have HHL := Lib.hid hlen
      have HBL := Lib.hid hbl
      have HF := Lib.hid hfew
      have HNN := Lib.hid hN
      obtain ⟨X, hX⟩ : ∃ X, X = wr.alloc (.cells #[] 136 (0, 0)) := ⟨_, rfl⟩
      have hbX : Below wr.heap.size wr X := by rw [hX]; exact (Below.refl _ _).alloc (Nat.le_refl _) _
      have hAX := HP.below hbX
      have HBX := Lib.hid hbX
      have HAX := Lib.hid hAX
      have HXE := Lib.hid hX
      clear HP hm hlen hbl hfew hN hX hbX hAX hmap hml
      by_cases hcK : c ∈ K
      · have e : keptF K c = some (.agg #[]) := by unfold keptF; rw [if_pos hcK]
        rw [e] at hlook
        simp only [Option.getD_some, Option.isSome_some] at hlook
        unfold intV at hlook
        clear e
        go_wp2_with fail
        rw [← HXE.out]
        go_wp2_with fail
        refine ⟨⟨K, W', HW.out.skip (.inl hcK), HAX.out, by have := HHL.out; have := HM2.out; omega, HBL.out.trans (HBX.out.mono HBL.out.size)⟩, ?_⟩
        rw [HAX.out.kept, HC.out.kept]
        simp only [lenW]; omega
      · have e : keptF K c = none := by unfold keptF; rw [if_neg hcK]
        rw [e] at hlook
        simp only [Option.getD_none, Option.isSome_none] at hlook
        unfold intV at hlook
        clear e
        by_cases h2 : c < 2
        · have hv1 : decide (c < 2) = true := decide_eq_true h2
          go_wp2_with fail
          rw [← HXE.out]
          go_wp2_with fail
          refine ⟨⟨K, W', HW.out.skip (.inr (.inl h2)), HAX.out, by have := HHL.out; have := HM2.out; omega, HBL.out.trans (HBX.out.mono HBL.out.size)⟩, ?_⟩
          rw [HAX.out.kept, HC.out.kept]
          simp only [lenW]; omega
        · have hv1 : decide (c < 2) = false := decide_eq_false h2
          have HOW := Lib.hid (owns_any b S F t c 0 X HAX.out.ar ht)
          cases ho : ownsA S.L t c 0 with
          | false =>
            rw [ho] at HOW
            go_wp2_with fail
            rw [← HXE.out]
            go_wp2_with fail
            refine HOW.out.mono ?_
            rintro e w3 ⟨rfl, rfl⟩
            go_wp2_with fail
            refine ⟨⟨K, W', HW.out.skip (.inr (.inr ho)), HAX.out, by have := HHL.out; have := HM2.out; omega, HBL.out.trans (HBX.out.mono HBL.out.size)⟩, ?_⟩
            rw [HAX.out.kept, HC.out.kept]
            simp only [lenW]; omega
          | true =>
            rw [ho] at HOW
            go_wp2_with fail
            rw [← HXE.out]
            go_wp2_with fail
            refine HOW.out.mono ?_
            rintro e w3 ⟨rfl, rfl⟩
            obtain ⟨x, hx, hxk, hxm⟩ := owns_here (by omega) ho
            obtain ⟨nx, hmx⟩ := HAX.out.map
            obtain ⟨st, W1', -, -, -, -, hen5⟩ := MapOf.entry int_keyedV (t := 135) (e := 136) (z := .agg #[]) Try.underlying135 (fun u => by kernel_rfl) hmx hc64
            obtain ⟨W5, -, hW5b, hM5, hK5, hZ5⟩ := hen5 (.agg #[])
            unfold intV at hW5b
            have h5 := HAX.out.put hM5 hK5
            obtain ⟨arr, v1, v3, bm, n4, fr, g4, vs, hA5⟩ := h5.ar
            obtain ⟨q, o2, cq, hv1, hFq, hqb, hent⟩ := hA5.ents
            have c1' : W5.cell? ⟨b, 1, none⟩ = some (.slice (some ⟨q, o2, none⟩) S.L.length cq) := by
              have := (hA5.cell 1).trans hA5.c1
              rw [hv1] at this; exact this
            obtain ⟨i, rfl⟩ : ∃ i : Nat, c = i := ⟨c.toNat, by omega⟩
            rw [Int.toNat_natCast] at hx
            have hil := atL_lt hx
            have hen := hent i _ (atL_some.1 hx)
            have hgx := (hA5.good i x hx).1
            have hnews : ∀ j u, ([.int .i64 x.a, .int .i64 x.b, .int .i64 x.c, .int .i64 x.d] : List Value)[j]? = some u → W5.cell? ((⟨q, o2 + i * 8 + 1, none⟩ : Addr).add j) = some u := fun j u hj => by
              have hj4 : j < 4 := by simpa using (List.getElem?_eq_some_iff.1 hj).1
              have := hen (j + 1) (by omega)
              rw [Addr.add_lit, show o2 + i * 8 + 1 + j = o2 + i * 8 + (j + 1) by omega, this, ← hj]
              simp [encO, encEnt]
              rcases (show j = 0 ∨ j = 1 ∨ j = 2 ∨ j = 3 by omega) with rfl | rfl | rfl | rfl <;> rfl
            obtain ⟨N, hN⟩ : ∃ N, N = S.L.length := ⟨_, rfl⟩
            have hiN : i < N := by omega
            have hNb : N ≤ 200002 := by have := HNN.out; omega
            rw [← hN] at c1'
            have hu5 : decide ((i : Int) < (N : Int)) = true := decide_eq_true (by omega)
            have hrow5 := h5.row
            rw [← HM2.out] at hrow5
            have H5 := Lib.hid h5
            have HR5 := Lib.hid hrow5
            have HN := Lib.hid hN
            have HNW := Lib.hid hnews
            have HWK := Lib.hid (HW.out.step hcK (by omega) ho (by rw [Int.toNat_natCast]; exact hx))
            have HGX := Lib.hid hgx
            have HK5 := Lib.hid hK5
            clear hlook hen5 hM5 hK5 hZ5 h5 hA5 hent hen hgx hnews hrow5 hN hx hmx ho hv1 hil
            have M3 := Lib.hid (show m + 4 ≤ maxLen by unfold maxLen; omega)
            have M4 := Lib.hid (show (m + 4) * 8 ≤ 140737488355328 by omega)
            go_upto_region 11 with fail
            go_wp2_with ((at_builtin; go_loud (refine wpList_append_row _ rfl (.tmp 61) (.tmp 70) 57 rfl 3 i0 _ 1 8 Try.underlying57 hi hz0 hz1 hz2 rfl (by omega) (.slice (some ⟨g, o, none⟩) m c1) m (W'.map intV) rfl HR5.out ⟨q, o2 + i * 8 + 1, none⟩ 4 4 [.int .i64 x.a, .int .i64 x.b, .int .i64 x.c, .int .i64 x.d] rfl rfl HNW.out (by simp [Value.oneCell']) (by omega) M3.out M4.out _ rfl ?_; intro g6 off cap w6 hrow hg hat)))
            have hz1 : w1.heap.size ≤ W5.heap.size := Nat.le_trans HBL.out.size (Nat.le_trans HBX.out.size HK5.out.size)
            have hgo : ∀ q, (Value.slice (some ⟨g, o, none⟩) m c1).ownBlock = some q → w1.heap.size ≤ q := fun q hq => (H5.out.d2 q hq).2
            have h6 : CleanSt b w1.heap.size w1.heap.size S F (↑i :: K) (W' ++ [x.a, x.b, x.c, x.d]) (.slice (some ⟨g6, off, none⟩) (m + 4) cap) w6 := by
              refine H5.out.more (n := m + 4) (by rw [HM2.out]; rfl) (by rw [List.map_append]; exact hrow) hg (fun q hq => ?_) hz1 ?_ ?_
              · obtain rfl : g6 = q := by simpa [Value.ownBlock] using hq
                exact hat
              · obtain ⟨-, g1, g2, g3, g4⟩ := HGX.out
                intro d hd
                simp only [List.mem_cons, List.not_mem_nil, or_false] at hd
                rcases hd with rfl | rfl | rfl | rfl <;> assumption
              · intro q hq hFq
                have := HO.out.lt q hFq
                have := hgo q hq
                omega
            refine ⟨⟨_, _, HWK.out, h6, ?_, ?_⟩, ?_⟩
            · have := HHL.out
              have := HM2.out
              simp only [List.length_append, List.length_cons, List.length_nil]
              omega
            · refine ((HBL.out.trans (HBX.out.mono HBL.out.size)).trans (HK5.out.toBelow (fun i e => by omega) (Nat.le_trans HBL.out.size HBX.out.size))).trans ?_
              exact (Keeps.grown (F := fun q => w1.heap.size ≤ q) (Keeps.refl _ _) hg fun q hq _ => hgo q hq).toBelow (fun _ h => h) hz1
            · rw [h6.kept, HC.out.kept, kc_cons hcK (by omega) (by rw [← HN.out]; exact_mod_cast hiN)]
              have h7 := kc_le (↑i :: K) S.L.length
              rw [kc_cons hcK (by omega) (by rw [← HN.out]; exact_mod_cast hiN)] at h7
              simp only [lenW]
              omega
theorem undo_out (b : Nat) (S : ArS) (F : Nat → Prop) (t : Int) (ht : t < 0 ∨ 64 ≤ t) (w : World) (h : IsAr b S w F) :
    Calls Try.prog 69 #[.pointer (some ⟨b, 0, none⟩), .int .i64 t] w (Mut w F (IsAr b S) (.int .i64 0)) := by
  have HT := Lib.hid (tenant_out t ht)
  have HI := Lib.hid h
  clear h
  go_enter Try.func69, Try.ntmps69
  go_wp2_with fail
  refine (HT.out _).mono ?_
  rintro e w1 ⟨rfl, rfl⟩
  go_wp2_with fail
  go_ret
  exact Mut.same HI.out
theorem clean_out (b : Nat) (S : ArS) (F : Nat → Prop) (t : Int) (ht : t < 0 ∨ 64 ≤ t) (A : Option Addr) (n cp : Nat) (w : World) (h : IsAr b S w F) :
    Calls Try.prog 71 #[.pointer (some ⟨b, 0, none⟩), .int .i64 t, .slice A n cp] w (Mut w F (IsAr b S) (.int .i64 0)) := by
  have HT := Lib.hid (tenant_out t ht)
  have HI := Lib.hid h
  clear h
  go_enter Try.func71, Try.ntmps71
  go_wp2_with fail
  refine (HT.out _).mono ?_
  rintro e w1 ⟨rfl, rfl⟩
  go_wp2_with fail
  go_ret
  exact Mut.same HI.out
end Go.Proofs.Ytdmamecfmfhlmaa
