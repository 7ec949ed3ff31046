/-
  The program's reader of words.
-/
import Derived.Test.YtdmamecfmfhlmaaGreatDoorZSpeechWritesNum
import Derived.Test.YtdmamecfmfhlmaaGreatDoorZSpeechWritesSplitRef
namespace Go.Proofs.YtdmamecfmfhlmaaGreatDoor
set_option maxRecDepth 100000
open Go.RowKit

/-- A reader: the words that are left, and whether something was bad. -/
def Rd (w : World) (p : Nat) (ts : List (List UInt8)) (bad : Bool) : Prop := ∃ v, w.heap[p]? = some (.cells #[v, .bool bad] 47 (0, 0)) ∧ Row w 9 1 v ts.length (encS ts)
theorem Rd.below {w w' : World} {p : Nat} {ts : List (List UInt8)} {bad : Bool} (h : Rd w p ts bad) (hb : Below w.heap.size w w') : Rd w' p ts bad := by
  obtain ⟨v, h1, h2⟩ := h
  exact ⟨v, (hb.block _ (lt_of_block h1)).trans h1, h2.keep (fun g hg => hb.block g (h2.lt g hg))⟩
theorem Rd.stored1 {w : World} {p : Nat} {v : Value} {b : Bool} {ts : List (List UInt8)} (hb : w.heap[p]? = some (.cells #[v, .bool b] 47 (0, 0))) (hr : Row w 9 1 v ts.length (encS ts)) (u : Bool) : Rd (w.setCell ⟨p, 1, none⟩ (.bool u)) p ts u := by
  refine ⟨v, ?_, hr.keep (fun g hg => Below.heap_setCell _ _ _ _ (fun e => hr.ne_type hb (by decide) (by rw [hg, e])))⟩
  rw [heap_setCell_same _ _ _ _ _ _ hb]; rfl
theorem Rd.stored0 {w : World} {p : Nat} {v v' : Value} {b : Bool} {ts : List (List UInt8)} (hb : w.heap[p]? = some (.cells #[v, .bool b] 47 (0, 0))) (hr : Row w 9 1 v' ts.length (encS ts)) : Rd (w.setCell ⟨p, 0, none⟩ v') p ts b := by
  refine ⟨v', ?_, hr.keep (fun g hg => Below.heap_setCell _ _ _ _ (fun e => hr.ne_type hb (by decide) (by rw [hg, e])))⟩
  rw [heap_setCell_same _ _ _ _ _ _ hb]; rfl
set_option maxHeartbeats 2000000 in
theorem word_any (p : Nat) (ts : List (List UInt8)) (bad : Bool) (w : World) (h : Rd w p ts bad) :
    Calls Tryz.prog 20 #[.pointer (some ⟨p, 0, none⟩)] w fun e w' => e = .returned (.string (txt (ts.headD []))) ∧ Rd w' p ts.tail (bad || ts.isEmpty) ∧ Keeps (fun i => i = p) w w' := by
  obtain ⟨v, hb, hr⟩ := h
  obtain ⟨a, c, rfl, hc, hm, hn⟩ := hr.form
  have p0 := Joins.cell_of_block hb 0
  have p1 := Joins.cell_of_block hb 1
  have z0 := Joins.unfrozen_of_block hb 0
  have z1 := Joins.unfrozen_of_block hb 1
  simp at p0 p1
  have HR := Lib.hid hr
  have HBK := Lib.hid hb
  cases ts with
  | nil =>
    clear hr hb
    go_enter Tryz.func20, Tryz.ntmps20
    go_wp2_with fail
    go_ret
    refine ⟨rfl, ?_, (Keeps.refl (fun i => i = p) w).setCell (p := ⟨p, 1, none⟩) (fun _ => rfl) _⟩
    rw [List.isEmpty_nil, Bool.or_true, List.tail_nil]
    exact Rd.stored1 HBK.out HR.out true
  | cons t r =>
    have hlen : (t :: r).length = r.length + 1 := rfl
    obtain ⟨n, hnn⟩ : ∃ n, n = r.length := ⟨_, rfl⟩
    rw [hlen, ← hnn] at hr HR HBK p0 hc
    obtain ⟨g, o, rfl, hcl, hfz, hgl⟩ := hr.cells (by omega)
    obtain ⟨T, hT⟩ : ∃ T, T = txt t := ⟨_, rfl⟩
    have f0 : w.cell? ⟨g, o, none⟩ = some (.string T) := by
      have := hcl 0 (by omega)
      rw [Nat.add_zero] at this
      rw [this, hT]; rfl
    have hcut := Row.cut (k := 1) hr (by omega) (by omega)
    obtain ⟨g2, o2, he2, hrow⟩ := hcut
    simp only [Option.some.injEq, Addr.mk.injEq, and_true] at he2
    obtain ⟨rfl, rfl⟩ := he2
    have HT := Lib.hid hT
    have HN := Lib.hid hnn
    have HROW := Lib.hid hrow
    have hcw : ((c : Int) - 1).toNat = c - 1 := by omega
    have e1 : (bad || (t :: r).isEmpty) = bad := by rw [List.isEmpty_cons, Bool.or_false]
    rw [e1, List.headD_cons, List.tail_cons, ← hT]
    clear hr hb hcl hfz hrow hT hn hnn hlen e1
    go_enter Tryz.func20, Tryz.ntmps20
    go_wp2_with fail
    · have hc1 : c = 1 := by assumption
      have hrow2 : Row w 9 1 (.slice (some ⟨g, o, none⟩) n (c - 1)) n (encS r) := by
        have := HROW.out
        rw [if_pos hc1, Nat.add_sub_cancel] at this
        exact this
      rw [show c - 1 = 0 by omega] at hrow2
      go_ret
      refine ⟨rfl, ?_, (Keeps.refl (fun i => i = p) w).setCell (p := ⟨p, 0, none⟩) (fun _ => rfl) _⟩
      rw [HN.out] at hrow2 ⊢
      exact Rd.stored0 HBK.out hrow2
    · have hc1 : ¬ c = 1 := by assumption
      have hrow2 : Row w 9 1 (.slice (some ⟨g, o + 1, none⟩) n (c - 1)) n (encS r) := by
        have := HROW.out
        rw [if_neg hc1, Nat.add_sub_cancel] at this
        exact this
      go_ret
      refine ⟨rfl, ?_, (Keeps.refl (fun i => i = p) w).setCell (p := ⟨p, 0, none⟩) (fun _ => rfl) _⟩
      rw [HN.out] at hrow2 ⊢
      exact Rd.stored0 HBK.out hrow2
/-- Words that are no longer than a line. -/
def Fits (ts : List (List UInt8)) : Prop := ∀ t ∈ ts, t.length ≤ 6000
theorem Fits.head {ts : List (List UInt8)} (h : Fits ts) : (ts.headD []).length ≤ 6000 := by
  cases ts with
  | nil => exact Nat.zero_le _
  | cons t r => exact h t (by simp)
theorem Fits.tail {ts : List (List UInt8)} (h : Fits ts) : Fits ts.tail := fun t ht => h t (List.mem_of_mem_tail ht)
theorem rd_cells {w : World} {p : Nat} {ts : List (List UInt8)} {bad : Bool} (h : Rd w p ts bad) : ∃ v, w.cell? ⟨p, 0, none⟩ = some v ∧ w.cell? ⟨p, 1, none⟩ = some (.bool bad) ∧ w.frozen? ⟨p, 1, none⟩ = false ∧ p < w.heap.size ∧ (∀ u, Rd (w.setCell ⟨p, 1, none⟩ (.bool u)) p ts u) := by
  obtain ⟨v, hb, hr⟩ := h
  exact ⟨v, Joins.cell_of_block hb 0, Joins.cell_of_block hb 1, Joins.unfrozen_of_block hb 1, lt_of_block hb, fun u => Rd.stored1 hb hr u⟩
set_option maxHeartbeats 2000000 in
theorem readNum_any (p : Nat) (ts : List (List UInt8)) (bad : Bool) (w : World) (h : Rd w p ts bad) (hf : Fits ts) :
    Calls Tryz.prog 25 #[.pointer (some ⟨p, 0, none⟩)] w fun e w' => e = .returned (.int .i64 (if okS (ts.headD []) = true then valS (ts.headD []) else 0)) ∧ Rd w' p ts.tail (bad || ts.isEmpty || !okS (ts.headD [])) ∧ Keeps (fun i => i = p) w w' := by
  have HW := Lib.hid (word_any p ts bad w h)
  have HN := Lib.hid (fun w1 => number_any (ts.headD []) w1 (Nat.le_trans hf.head (by decide)))
  unfold numA at HN
  obtain ⟨S, hS⟩ : ∃ S, S = txt (ts.headD []) := ⟨_, rfl⟩
  obtain ⟨V, hV⟩ : ∃ V, V = (if okS (ts.headD []) = true then valS (ts.headD []) else 0) := ⟨_, rfl⟩
  obtain ⟨B, hB⟩ : ∃ B, B = okS (ts.headD []) := ⟨_, rfl⟩
  obtain ⟨b2, hb2⟩ : ∃ b2, b2 = (bad || ts.isEmpty) := ⟨_, rfl⟩
  rw [← hS, ← hV, ← hB] at HN
  rw [← hS, ← hb2] at HW
  rw [← hV, ← hB, ← hb2]
  clear hS hV hB hb2 h hf
  go_enter Tryz.func25, Tryz.ntmps25
  go_wp2_with fail
  refine HW.out.mono ?_
  rintro e w1 ⟨rfl, h1, k1⟩
  have H1 := Lib.hid h1
  have K1 := Lib.hid k1
  clear h1 k1
  go_wp2_with fail
  refine (HN.out w1).mono ?_
  rintro e w2 ⟨rfl, hb⟩
  have H2 := Lib.hid (H1.out.below hb)
  have K2 := Lib.hid (K1.out.below hb)
  clear hb
  obtain ⟨v, c0, c1, cf, cl, cs⟩ := rd_cells H2.out
  have CS := Lib.hid cs
  clear cs
  cases b2 with
  | true =>
    go_wp2_with fail
    go_ret
    exact ⟨rfl, CS.out _, K2.out.setCell (p := ⟨p, 1, none⟩) (fun _ => rfl) _⟩
  | false =>
    cases B with
    | true =>
      go_wp2_with fail
      go_ret
      exact ⟨rfl, CS.out _, K2.out.setCell (p := ⟨p, 1, none⟩) (fun _ => rfl) _⟩
    | false =>
      go_wp2_with fail
      go_ret
      exact ⟨rfl, CS.out _, K2.out.setCell (p := ⟨p, 1, none⟩) (fun _ => rfl) _⟩
set_option maxHeartbeats 2000000 in
theorem readName_any (p : Nat) (ts : List (List UInt8)) (bad : Bool) (w : World) (h : Rd w p ts bad) (hf : Fits ts) :
    Calls Tryz.prog 21 #[.pointer (some ⟨p, 0, none⟩)] w fun e w' => e = .returned (.string (txt (ts.headD []))) ∧ Rd w' p ts.tail (bad || ts.isEmpty || !namedF (ts.headD [])) ∧ Keeps (fun i => i = p) w w' := by
  have HW := Lib.hid (word_any p ts bad w h)
  have HN := Lib.hid (fun w1 => named_any (txt (ts.headD [])) w1 (by rw [txt_size]; exact Nat.le_trans hf.head (by decide)))
  rw [txt_data] at HN
  obtain ⟨S, hS⟩ : ∃ S, S = txt (ts.headD []) := ⟨_, rfl⟩
  obtain ⟨b2, hb2⟩ : ∃ b2, b2 = (bad || ts.isEmpty) := ⟨_, rfl⟩
  obtain ⟨B, hB⟩ : ∃ B, B = namedF (ts.headD []) := ⟨_, rfl⟩
  rw [← hS, ← hB] at HN
  rw [← hS, ← hb2] at HW
  rw [← hS, ← hB, ← hb2]
  clear hS hB hb2 h hf
  go_enter Tryz.func21, Tryz.ntmps21
  go_wp2_with fail
  refine HW.out.mono ?_
  rintro e w1 ⟨rfl, h1, k1⟩
  obtain ⟨v, c0, c1, cf, cl, cs⟩ := rd_cells h1
  have H1 := Lib.hid h1
  have K1 := Lib.hid k1
  have CS := Lib.hid cs
  clear h1 k1 cs
  cases b2 with
  | true =>
    go_wp2_with fail
    go_ret
    exact ⟨rfl, CS.out _, K1.out.setCell (p := ⟨p, 1, none⟩) (fun _ => rfl) _⟩
  | false =>
    go_wp2_with fail
    refine (HN.out w1).mono ?_
    rintro e w2 ⟨rfl, hb⟩
    have H2 := Lib.hid (H1.out.below hb)
    have K2 := Lib.hid (K1.out.below hb)
    clear hb c0 c1 cf cl CS
    cases B with
    | true =>
      obtain ⟨v, c0, c1, cf, cl, cs⟩ := rd_cells H2.out
      have CS := Lib.hid cs
      clear cs
      go_wp2_with fail
      go_ret
      exact ⟨rfl, CS.out _, K2.out.setCell (p := ⟨p, 1, none⟩) (fun _ => rfl) _⟩
    | false =>
      obtain ⟨v, c0, c1, cf, cl, cs⟩ := rd_cells H2.out
      have CS := Lib.hid cs
      clear cs
      go_wp2_with fail
      go_ret
      exact ⟨rfl, CS.out _, K2.out.setCell (p := ⟨p, 1, none⟩) (fun _ => rfl) _⟩
set_option maxHeartbeats 2000000 in
theorem readPlace_any (p : Nat) (ts : List (List UInt8)) (bad : Bool) (w : World) (h : Rd w p ts bad) (hf : Fits ts) :
    Calls Tryz.prog 23 #[.pointer (some ⟨p, 0, none⟩)] w fun e w' => e = .returned (.string (txt (ts.headD []))) ∧ Rd w' p ts.tail (bad || ts.isEmpty || (!namedF (ts.headD []) && !keyedF (ts.headD []))) ∧ Keeps (fun i => i = p) w w' := by
  have HW := Lib.hid (word_any p ts bad w h)
  have HN := Lib.hid (fun w1 => named_any (txt (ts.headD [])) w1 (by rw [txt_size]; exact Nat.le_trans hf.head (by decide)))
  have HKY := Lib.hid (fun w1 => keyed_any (txt (ts.headD [])) w1 (by rw [txt_size]; exact Nat.le_trans hf.head (by decide)))
  rw [txt_data] at HN HKY
  obtain ⟨S, hS⟩ : ∃ S, S = txt (ts.headD []) := ⟨_, rfl⟩
  obtain ⟨b2, hb2⟩ : ∃ b2, b2 = (bad || ts.isEmpty) := ⟨_, rfl⟩
  obtain ⟨B, hB⟩ : ∃ B, B = namedF (ts.headD []) := ⟨_, rfl⟩
  obtain ⟨C, hC⟩ : ∃ C, C = keyedF (ts.headD []) := ⟨_, rfl⟩
  rw [← hS, ← hB] at HN
  rw [← hS, ← hC] at HKY
  rw [← hS, ← hb2] at HW
  rw [← hS, ← hB, ← hC, ← hb2]
  clear hS hB hC hb2 h hf
  go_enter Tryz.func23, Tryz.ntmps23
  go_wp2_with fail
  refine HW.out.mono ?_
  rintro e w1 ⟨rfl, h1, k1⟩
  obtain ⟨v, c0, c1, cf, cl, cs⟩ := rd_cells h1
  have H1 := Lib.hid h1
  have K1 := Lib.hid k1
  have CS := Lib.hid cs
  clear h1 k1 cs
  cases b2 with
  | true =>
    go_wp2_with fail
    go_ret
    exact ⟨rfl, CS.out _, K1.out.setCell (p := ⟨p, 1, none⟩) (fun _ => rfl) _⟩
  | false =>
    go_wp2_with fail
    refine (HN.out w1).mono ?_
    rintro e w2 ⟨rfl, hb⟩
    have H2 := Lib.hid (H1.out.below hb)
    have K2 := Lib.hid (K1.out.below hb)
    clear hb c0 c1 cf cl CS
    cases B with
    | true =>
      obtain ⟨v, c0, c1, cf, cl, cs⟩ := rd_cells H2.out
      have CS := Lib.hid cs
      clear cs
      go_wp2_with fail
      go_ret
      exact ⟨rfl, CS.out _, K2.out.setCell (p := ⟨p, 1, none⟩) (fun _ => rfl) _⟩
    | false =>
      go_wp2_with fail
      refine (HKY.out w2).mono ?_
      rintro e w3 ⟨rfl, hb⟩
      have H3 := Lib.hid (H2.out.below hb)
      have K3 := Lib.hid (K2.out.below hb)
      clear hb
      cases C with
      | true =>
        obtain ⟨v, c0, c1, cf, cl, cs⟩ := rd_cells H3.out
        have CS := Lib.hid cs
        clear cs
        go_wp2_with fail
        go_ret
        exact ⟨rfl, CS.out _, K3.out.setCell (p := ⟨p, 1, none⟩) (fun _ => rfl) _⟩
      | false =>
        obtain ⟨v, c0, c1, cf, cl, cs⟩ := rd_cells H3.out
        have CS := Lib.hid cs
        clear cs
        go_wp2_with fail
        go_ret
        exact ⟨rfl, CS.out _, K3.out.setCell (p := ⟨p, 1, none⟩) (fun _ => rfl) _⟩
end Go.Proofs.YtdmamecfmfhlmaaGreatDoor
