/-
  quad's walker: does nothing live in a square?
-/
import Derived.Test.YtabhpbkkjijfjaaZLeapSteps28
namespace Go.Proofs.Ytabhpbkkjijfjaa
set_option maxRecDepth 100000
open Go.RowKit

def emB (T : Tree) : Bool := decide (cnt T = 0)
def emV (T : Tree) : Value := .int .i64 (if emB T then 1 else 2)
structure MemoE (L : List (Option Ent)) (t : Nat) (f : Int → Option Value) : Prop where
  all : ∀ id v, f id = some v → ∃ n T, Den L t n T id ∧ v = emV T
/-- A walker and what it knows. -/
structure WSt (b t : Nat) (S : ArS) (F : Nat → Prop) (wb mb nn : Nat) (f : Int → Option Value) (w : World) : Prop where
  ar : IsAr b S w F
  hand : HandAt wb b t 0 54 (some (.map (some mb))) w
  map : MapOf intV I64 w mb nn f
  memo : MemoE S.L t f
  d1 : ¬ F wb ∧ ¬ F mb
  dm : wb ≠ mb
section
variable {b t : Nat} {S : ArS} {F : Nat → Prop} {wb mb nn : Nat} {f : Int → Option Value} {w w' : World}
theorem WSt.hands (h : WSt b t S F wb mb nn f w) (hh : HandAt wb b t 0 54 (some (.map (some mb))) w') (hk : Keeps (fun i => i = wb) w w') : WSt b t S F wb mb nn f w' :=
  { h with
    ar := h.ar.keep hk (fun i hi e => h.d1.1 (by rw [← e]; exact hi))
    hand := hh
    map := h.map.keep (hk.block mb h.map.lt (fun e => h.dm e.symm)) }
theorem WSt.below (h : WSt b t S F wb mb nn f w) (hb : Below w.heap.size w w') : WSt b t S F wb mb nn f w' :=
  { h with
    ar := h.ar.below hb
    hand := h.hand.keep (hb.block _ h.hand.lt)
    map := h.map.keep (hb.block _ h.map.lt) }
theorem WSt.keep {G : Nat → Prop} (h : WSt b t S F wb mb nn f w) (hk : Keeps G w w') (hg : ∀ i, G i → ¬ F i ∧ i ≠ wb ∧ i ≠ mb) : WSt b t S F wb mb nn f w' :=
  { h with
    ar := h.ar.keep hk (fun i hi e => (hg i e).1 hi)
    hand := h.hand.keep (hk.block _ h.hand.lt (fun e => (hg _ e).2.1 rfl))
    map := h.map.keep (hk.block _ h.map.lt (fun e => (hg _ e).2.2 rfl)) }
theorem WSt.stored (h : WSt b t S F wb mb nn f w) {id : Int} {n : Nat} {T : Tree} (hd : Den S.L t n T id) {nn' : Nat} (hm : MapOf intV I64 w' mb nn' (updM f id (emV T))) (hk : Keeps (fun i => i = mb) w w') : WSt b t S F wb mb nn' (updM f id (emV T)) w' :=
  { h with
    ar := h.ar.keep hk (fun i hi e => h.d1.2 (by rw [← e]; exact hi))
    hand := h.hand.keep (hk.block wb h.hand.lt h.dm)
    map := hm
    memo := ⟨fun i v hv => by
      by_cases e : i = id
      · rw [e, updM_same] at hv
        cases hv
        exact ⟨n, T, by rw [e]; exact hd, rfl⟩
      · rw [updM_other f _ e] at hv
        exact h.memo.all i v hv⟩ }
end
def WEmptyOk (n : Nat) : Prop := ∀ (b t : Nat) (S : ArS) (F : Nat → Prop) (wb mb nn : Nat) (f : Int → Option Value) (T : Tree) (id : Int) (w : World),
  WSt b t S F wb mb nn f w → t < 64 → Den S.L t n T id →
  Calls Try.prog 29 #[.pointer (some ⟨wb, 0, none⟩), .int .i64 id] w fun e w' => e = .returned (.bool (emB T)) ∧ ∃ nn' f', WSt b t S F wb mb nn' f' w' ∧ Keeps (fun i => i = wb ∨ i = mb) w w'
theorem wempty_zero : WEmptyOk 0 := by
  intro b t S F wb mb nn f T id w h ht hd
  have HH := Lib.hid h
  match T, hd with
  | .leaf bb, hd =>
    have hd : id = if bb then 1 else 0 := hd
    clear h
    cases bb with
    | true =>
      rw [if_pos rfl] at hd
      subst hd
      go_enter Try.func29, Try.ntmps29
      go_wp2_with fail
      go_ret
      exact ⟨rfl, nn, f, HH.out, Keeps.refl _ _⟩
    | false =>
      rw [if_neg (by decide)] at hd
      subst hd
      go_enter Try.func29, Try.ntmps29
      go_wp2_with fail
      go_ret
      exact ⟨rfl, nn, f, HH.out, Keeps.refl _ _⟩
def accE : List Tree → Int
  | [] => 1
  | T :: l => if emB T then accE l else 2
theorem accE_snoc : ∀ (l : List Tree) (T : Tree), accE (l ++ [T]) = if emB T then accE l else 2
  | [], T => rfl
  | U :: l, T => by
    show (if emB U then accE (l ++ [T]) else 2) = _
    rw [accE_snoc l T]
    show _ = if emB T then (if emB U then accE l else 2) else 2
    cases emB U <;> cases emB T <;> rfl
theorem accE_or (l : List Tree) : accE l = 1 ∨ accE l = 2 := by
  induction l with
  | nil => exact .inl rfl
  | cons T l ih =>
    show (if emB T then accE l else 2) = 1 ∨ _
    cases h : emB T
    · right; show (if emB T then accE l else 2) = 2; rw [h]; rfl
    · show (if true = true then accE l else 2) = 1 ∨ (if emB T then accE l else 2) = 2
      rw [h]; exact ih
theorem accE_four (a b c d : Tree) : accE [a, b, c, d] = if emB (.node a b c d) then 1 else 2 := by
  have e : emB (.node a b c d) = (emB a && (emB b && (emB c && emB d))) := by
    unfold emB
    show decide (cnt a + cnt b + cnt c + cnt d = 0) = _
    by_cases h1 : cnt a = 0 <;> by_cases h2 : cnt b = 0 <;> by_cases h3 : cnt c = 0 <;> by_cases h4 : cnt d = 0 <;> simp [h1, h2, h3, h4]
  rw [e]
  show (if emB a then (if emB b then (if emB c then (if emB d then 1 else 2) else 2) else 2) else 2) = _
  cases emB a <;> cases emB b <;> cases emB c <;> cases emB d <;> rfl
set_option maxHeartbeats 8000000 in
set_option maxRecDepth 100000 in
theorem wempty_succ (n : Nat) (IH : WEmptyOk n) : WEmptyOk (n + 1) := by
  intro b t S F wb mb nn f T id w h ht hd
  have h64 := hd.i64 h.ar.ok
  have hlook := h.map.look int_keyedV (t := 52) (e := 3) (z := .int .i64 0) Try.underlying52 (fun u => by kernel_rfl) h64
  have c3 := h.hand.c3
  have HH := Lib.hid h
  have HD := Lib.hid hd
  obtain ⟨Ta, Tb, Tc, Td, rfl⟩ : ∃ a b c d, T = .node a b c d := by
    match T, hd with
    | .node a b c d, _ => exact ⟨a, b, c, d, rfl⟩
  have hd0 := hd
  obtain ⟨h2, x, h3, h4, h5, h6, xa, xb, xc, xd⟩ := hd0
  obtain ⟨i, rfl⟩ : ∃ i : Nat, id = i := ⟨id.toNat, by omega⟩
  have hi2 : 2 ≤ i := by omega
  have t1 : decide ((i : Int) < 2) = false := decide_eq_false (by omega)
  have t2 : decide (i < 2) = false := decide_eq_false (by omega)
  rw [Int.toNat_natCast] at h3
  cases hf : f (i : Int) with
  | some v =>
    obtain ⟨m, U, hU, rfl⟩ := h.memo.all (i : Int) v hf
    obtain ⟨_, rfl⟩ := Den.level h.ar.ok hd hU
    rw [hf] at hlook
    simp only [Option.getD_some] at hlook
    unfold intV emV at hlook
    obtain ⟨bb, hbb⟩ : ∃ bb, bb = emB (.node Ta Tb Tc Td) := ⟨_, rfl⟩
    rw [← hbb] at hlook ⊢
    clear h hd hf hU h64 h2 h3 h4 h5 h6 xa xb xc xd hi2 hbb
    cases bb with
    | true =>
      rw [if_pos rfl] at hlook
      go_enter Try.func29, Try.ntmps29
      go_wp2_with fail
      go_ret
      exact ⟨rfl, nn, f, HH.out, Keeps.refl _ _⟩
    | false =>
      rw [if_neg (by decide)] at hlook
      go_enter Try.func29, Try.ntmps29
      go_wp2_with fail
      go_ret
      exact ⟨rfl, nn, f, HH.out, Keeps.refl _ _⟩
  | none =>
    rw [hf] at hlook
    simp only [Option.getD_none] at hlook
    unfold intV at hlook
    have hkd : kidsA S t (i : Int) = ((x.a, x.b, x.c, x.d), 0) := kidsA_yes ht hd.owns hi2 h3
    have hkids := hkids_any wb b t 0 54 (some (.map (some mb))) S F (i : Int) w h.ar h.hand h.d1.1
    rw [if_pos rfl, if_pos rfl, hkd] at hkids
    unfold fourV at hkids
    simp only at hkids
    obtain ⟨q0, hq0⟩ : ∃ q, q = x.a := ⟨_, rfl⟩
    obtain ⟨q1, hq1⟩ : ∃ q, q = x.b := ⟨_, rfl⟩
    obtain ⟨q2, hq2⟩ : ∃ q, q = x.c := ⟨_, rfl⟩
    obtain ⟨q3, hq3⟩ : ∃ q, q = x.d := ⟨_, rfl⟩
    rw [← hq0] at xa hkids
    rw [← hq1] at xb hkids
    rw [← hq2] at xc hkids
    rw [← hq3] at xd hkids
    have HDA := Lib.hid xa
    have HDB := Lib.hid xb
    have HDC := Lib.hid xc
    have HDD := Lib.hid xd
    have HIH := Lib.hid IH
    have HK := Lib.hid hkids
    have H64 := Lib.hid h64
    have i0 : ∀ W, (Instr.index 72 (.agg #[.int .i64 q0, .int .i64 q1, .int .i64 q2, .int .i64 q3]) (.int .i64 0)).run Try.prog W = .ok (.int .i64 q0) W := fun W => by kernel_rfl
    have i1 : ∀ W, (Instr.index 72 (.agg #[.int .i64 q0, .int .i64 q1, .int .i64 q2, .int .i64 q3]) (.int .i64 1)).run Try.prog W = .ok (.int .i64 q1) W := fun W => by kernel_rfl
    have i2 : ∀ W, (Instr.index 72 (.agg #[.int .i64 q0, .int .i64 q1, .int .i64 q2, .int .i64 q3]) (.int .i64 2)).run Try.prog W = .ok (.int .i64 q2) W := fun W => by kernel_rfl
    have i3 : ∀ W, (Instr.index 72 (.agg #[.int .i64 q0, .int .i64 q1, .int .i64 q2, .int .i64 q3]) (.int .i64 3)).run Try.prog W = .ok (.int .i64 q3) W := fun W => by kernel_rfl
    have HF4 := Lib.hid (accE_four Ta Tb Tc Td)
    clear h hd hf h2 h3 h4 h5 h6 xa xb xc xd hkd hkids hq0 hq1 hq2 hq3 IH h64 hi2
    go_enter Try.func29, Try.ntmps29
    go_wp2_with fail
    with_reducible refine HK.out.mono ?_
    rintro e w0 ⟨rfl, hh0, hk0⟩
    have HST0 := Lib.hid (HH.out.hands hh0 hk0)
    have HKP0 := Lib.hid (hk0.mono (G := fun i => i = wb ∨ i = mb) fun i _ e => .inl e)
    clear hh0 hk0 hlook c3
    go_wp2_with fail
    go_loopw [6, 8, 28] (fun av _ iv ws => ∃ (k nn' : Nat) (f' : Int → Option Value), iv = .int .i64 k ∧ k ≤ 4 ∧ av = .int .i64 (accE ([Ta, Tb, Tc, Td].take k)) ∧ Aside (WSt b t S F wb mb nn' f' ws) ∧ Aside (Keeps (fun i => i = wb ∨ i = mb) w ws)) (fun _ _ iv _ => 4 - (intOf iv).toNat)
    case atStart => exact ⟨0, nn, f, rfl, by omega, rfl, HST0.out, HKP0.out⟩
    case round =>
      obtain ⟨k, nn', f', rfl, hk4, rfl, HST, HKP⟩ := hrel
      rcases (show k = 0 ∨ k = 1 ∨ k = 2 ∨ k = 3 ∨ k = 4 by omega) with rfl | rfl | rfl | rfl | rfl
      · have HC := Lib.hid (HIH.out b t S F wb mb nn' f' Ta q0 wr HST.out ht HDA.out)
        have hsn : accE ([] ++ [Ta]) = if emB Ta then accE [] else 2 := accE_snoc _ _
        rw [show [] ++ [Ta] = [Ta] from rfl] at hsn
        rw [show [Ta, Tb, Tc, Td].take 0 = [] from rfl]
        obtain ⟨ac, hac⟩ : ∃ ac, ac = accE [] := ⟨_, rfl⟩
        obtain ⟨eb, heb⟩ : ∃ eb, eb = emB Ta := ⟨_, rfl⟩
        rw [← hac, ← heb] at hsn
        rw [← heb] at HC
        rw [← hac]
        have HSN := Lib.hid hsn
        clear hsn hac heb
        rw [show ((0 : Nat) : Int) = (0 : Int) from rfl]
        go_wp2_with fail
        with_reducible refine HC.out.mono ?_
        rintro e w1 ⟨rfl, nn1, f1, hst1, hk1⟩
        have HST1 : Aside (WSt b t S F wb mb nn1 f1 w1) := hst1
        have HKP1 : Aside (Keeps (fun i => i = wb ∨ i = mb) w w1) := HKP.out.trans hk1 (fun _ _ h => h)
        clear hst1 hk1
        cases eb with
        | true =>
          have HSE := Lib.hid (show ac = accE ([Ta, Tb, Tc, Td].take 1) from HSN.out.symm)
          go_wp2_with fail
          refine ⟨⟨1, nn1, f1, rfl, by omega, by rw [HSE.out], HST1, HKP1⟩, by simp [intOf]⟩
        | false =>
          have HSE := Lib.hid (show (2 : Int) = accE ([Ta, Tb, Tc, Td].take 1) from HSN.out.symm)
          go_wp2_with fail
          refine ⟨⟨1, nn1, f1, rfl, by omega, by rw [← HSE.out], HST1, HKP1⟩, by simp [intOf]⟩
      · have HC := Lib.hid (HIH.out b t S F wb mb nn' f' Tb q1 wr HST.out ht HDB.out)
        have hsn : accE ([Ta] ++ [Tb]) = if emB Tb then accE [Ta] else 2 := accE_snoc _ _
        rw [show [Ta] ++ [Tb] = [Ta, Tb] from rfl] at hsn
        rw [show [Ta, Tb, Tc, Td].take 1 = [Ta] from rfl]
        obtain ⟨ac, hac⟩ : ∃ ac, ac = accE [Ta] := ⟨_, rfl⟩
        obtain ⟨eb, heb⟩ : ∃ eb, eb = emB Tb := ⟨_, rfl⟩
        rw [← hac, ← heb] at hsn
        rw [← heb] at HC
        rw [← hac]
        have HSN := Lib.hid hsn
        clear hsn hac heb
        rw [show ((1 : Nat) : Int) = (1 : Int) from rfl]
        go_wp2_with fail
        with_reducible refine HC.out.mono ?_
        rintro e w1 ⟨rfl, nn1, f1, hst1, hk1⟩
        have HST1 : Aside (WSt b t S F wb mb nn1 f1 w1) := hst1
        have HKP1 : Aside (Keeps (fun i => i = wb ∨ i = mb) w w1) := HKP.out.trans hk1 (fun _ _ h => h)
        clear hst1 hk1
        cases eb with
        | true =>
          have HSE := Lib.hid (show ac = accE ([Ta, Tb, Tc, Td].take 2) from HSN.out.symm)
          go_wp2_with fail
          refine ⟨⟨2, nn1, f1, rfl, by omega, by rw [HSE.out], HST1, HKP1⟩, by simp [intOf]⟩
        | false =>
          have HSE := Lib.hid (show (2 : Int) = accE ([Ta, Tb, Tc, Td].take 2) from HSN.out.symm)
          go_wp2_with fail
          refine ⟨⟨2, nn1, f1, rfl, by omega, by rw [← HSE.out], HST1, HKP1⟩, by simp [intOf]⟩
      · have HC := Lib.hid (HIH.out b t S F wb mb nn' f' Tc q2 wr HST.out ht HDC.out)
        have hsn : accE ([Ta, Tb] ++ [Tc]) = if emB Tc then accE [Ta, Tb] else 2 := accE_snoc _ _
        rw [show [Ta, Tb] ++ [Tc] = [Ta, Tb, Tc] from rfl] at hsn
        rw [show [Ta, Tb, Tc, Td].take 2 = [Ta, Tb] from rfl]
        obtain ⟨ac, hac⟩ : ∃ ac, ac = accE [Ta, Tb] := ⟨_, rfl⟩
        obtain ⟨eb, heb⟩ : ∃ eb, eb = emB Tc := ⟨_, rfl⟩
        rw [← hac, ← heb] at hsn
        rw [← heb] at HC
        rw [← hac]
        have HSN := Lib.hid hsn
        clear hsn hac heb
        rw [show ((2 : Nat) : Int) = (2 : Int) from rfl]
        go_wp2_with fail
        with_reducible refine HC.out.mono ?_
        rintro e w1 ⟨rfl, nn1, f1, hst1, hk1⟩
        have HST1 : Aside (WSt b t S F wb mb nn1 f1 w1) := hst1
        have HKP1 : Aside (Keeps (fun i => i = wb ∨ i = mb) w w1) := HKP.out.trans hk1 (fun _ _ h => h)
        clear hst1 hk1
        cases eb with
        | true =>
          have HSE := Lib.hid (show ac = accE ([Ta, Tb, Tc, Td].take 3) from HSN.out.symm)
          go_wp2_with fail
          refine ⟨⟨3, nn1, f1, rfl, by omega, by rw [HSE.out], HST1, HKP1⟩, by simp [intOf]⟩
        | false =>
          have HSE := Lib.hid (show (2 : Int) = accE ([Ta, Tb, Tc, Td].take 3) from HSN.out.symm)
          go_wp2_with fail
          refine ⟨⟨3, nn1, f1, rfl, by omega, by rw [← HSE.out], HST1, HKP1⟩, by simp [intOf]⟩
      · have HC := Lib.hid (HIH.out b t S F wb mb nn' f' Td q3 wr HST.out ht HDD.out)
        have hsn : accE ([Ta, Tb, Tc] ++ [Td]) = if emB Td then accE [Ta, Tb, Tc] else 2 := accE_snoc _ _
        rw [show [Ta, Tb, Tc] ++ [Td] = [Ta, Tb, Tc, Td] from rfl] at hsn
        rw [show [Ta, Tb, Tc, Td].take 3 = [Ta, Tb, Tc] from rfl]
        obtain ⟨ac, hac⟩ : ∃ ac, ac = accE [Ta, Tb, Tc] := ⟨_, rfl⟩
        obtain ⟨eb, heb⟩ : ∃ eb, eb = emB Td := ⟨_, rfl⟩
        rw [← hac, ← heb] at hsn
        rw [← heb] at HC
        rw [← hac]
        have HSN := Lib.hid hsn
        clear hsn hac heb
        rw [show ((3 : Nat) : Int) = (3 : Int) from rfl]
        go_wp2_with fail
        with_reducible refine HC.out.mono ?_
        rintro e w1 ⟨rfl, nn1, f1, hst1, hk1⟩
        have HST1 : Aside (WSt b t S F wb mb nn1 f1 w1) := hst1
        have HKP1 : Aside (Keeps (fun i => i = wb ∨ i = mb) w w1) := HKP.out.trans hk1 (fun _ _ h => h)
        clear hst1 hk1
        cases eb with
        | true =>
          have HSE := Lib.hid (show ac = accE ([Ta, Tb, Tc, Td].take 4) from HSN.out.symm)
          go_wp2_with fail
          refine ⟨⟨4, nn1, f1, rfl, by omega, by rw [HSE.out], HST1, HKP1⟩, by simp [intOf]⟩
        | false =>
          have HSE := Lib.hid (show (2 : Int) = accE ([Ta, Tb, Tc, Td].take 4) from HSN.out.symm)
          go_wp2_with fail
          refine ⟨⟨4, nn1, f1, rfl, by omega, by rw [← HSE.out], HST1, HKP1⟩, by simp [intOf]⟩
      · rw [show [Ta, Tb, Tc, Td].take 4 = [Ta, Tb, Tc, Td] from rfl, HF4.out, show ((4 : Nat) : Int) = (4 : Int) from rfl]
        obtain ⟨bb, hbb⟩ : ∃ bb, bb = emB (.node Ta Tb Tc Td) := ⟨_, rfl⟩
        have hev : emV (.node Ta Tb Tc Td) = .int .i64 (if bb then 1 else 2) := by rw [hbb]; rfl
        rw [← hbb]
        have HBB := Lib.hid hbb
        obtain ⟨st, W1', hen1, hen2, hen3, hen4, hen5⟩ := MapOf.entry int_keyedV (t := 52) (e := 3) (z := .int .i64 0) Try.underlying52 (fun u => by kernel_rfl) HST.out.map H64.out
        obtain ⟨W5, hW5a, hW5b, hM5, hK5, hZ5⟩ := hen5 (emV (.node Ta Tb Tc Td))
        have HF := Lib.hid (HST.out.stored HD.out hM5 hK5)
        have HKF := Lib.hid (HKP.out.trans hK5 (fun i _ e => .inr e))
        rw [hev] at hW5b
        unfold intV at hW5b
        have c3' := HST.out.hand.c3
        clear hen1 hen2 hen3 hen4 hen5 hW5a hM5 hK5 hZ5 hbb hev
        cases bb with
        | true =>
          rw [if_pos rfl] at hW5b ⊢
          go_wp2_with fail
          go_ret
          exact ⟨by rw [← HBB.out]; rfl, _, _, HF.out, HKF.out⟩
        | false =>
          rw [if_neg (by decide)] at hW5b ⊢
          go_wp2_with fail
          go_ret
          exact ⟨by rw [← HBB.out]; rfl, _, _, HF.out, HKF.out⟩
theorem wempty_any : ∀ n, WEmptyOk n
  | 0 => wempty_zero
  | n + 1 => wempty_succ n (wempty_any n)
section
open Go.RowKit
/-- What has come out, in memory. -/
structure OSt (c : Nat) (zs : CellL) (v : Value) (w : World) : Prop where
  own : w.heap[c]? = some (.cells #[v] 24 (0, 0))
  row : Row w 39 2 v zs.length (zs.flatMap encCell)
theorem OSt.ne {c : Nat} {zs : CellL} {v : Value} {w : World} (h : OSt c zs v w) : v.ownBlock ≠ some c := h.row.ne_type h.own (by decide)
theorem OSt.keep {c : Nat} {zs : CellL} {v : Value} {w w' : World} {G : Nat → Prop} (h : OSt c zs v w) (hk : Keeps G w w') (h1 : ¬ G c) (h2 : ∀ q, v.ownBlock = some q → ¬ G q) : OSt c zs v w' :=
  ⟨(hk.block c (lt_of_block h.own) h1).trans h.own, h.row.keep fun q hq => hk.block q (h.row.lt q hq) (h2 q hq)⟩
theorem OSt.below {c : Nat} {zs : CellL} {v : Value} {w w' : World} (h : OSt c zs v w) (hb : Below w.heap.size w w') : OSt c zs v w' :=
  h.keep (Keeps.of_below (F := fun _ => False) hb) (fun h => h) (fun _ _ h => h)
set_option maxHeartbeats 2000000 in
set_option maxRecDepth 100000 in
theorem out_any (c : Nat) (zs : CellL) (v : Value) (x y : Int) (w : World) (h : OSt c zs v w) (hlen : zs.length < 4096) :
    Calls Try.prog 23 #[.agg #[.int .i64 x, .int .i64 y], .pointer (some ⟨c, 0, none⟩)] w fun e w' => e = .returned (.bool true) ∧ ∃ v', OSt c (zs ++ [(x, y)]) v' w' ∧ (∀ q, v'.ownBlock = some q → v.ownBlock = some q ∨ w.heap.size ≤ q) ∧ Keeps (fun i => i = c ∨ v.ownBlock = some i) w w' := by
  obtain ⟨i0, hi, hz0, hz1, hz2⟩ := info_parts infoCellQ
  obtain ⟨a, cp, rfl, hcl, hcm, _⟩ := h.row.form
  have hcl' := lt_of_block h.own
  obtain ⟨X, hX⟩ : ∃ X, X = w.alloc (.cells #[.int .i64 x, .int .i64 y] 39 (0, 0)) := ⟨_, rfl⟩
  have hbX : Below w.heap.size w X := by rw [hX]; exact (Below.refl _ _).alloc (Nat.le_refl _) _
  have hbx : X.heap[w.heap.size]? = some (.cells #[.int .i64 x, .int .i64 y] 39 (0, 0)) := by rw [hX]; exact blk_last w _ rfl
  have hOX := h.below hbX
  obtain ⟨n, hn⟩ : ∃ n, n = zs.length := ⟨_, rfl⟩
  have hrow := hOX.row
  have hown := hOX.own
  have hne := hOX.ne
  rw [← hn] at hrow hown hne hlen
  have c0 := Joins.cell_of_block hown 0
  have f0 := Joins.unfrozen_of_block hown 0
  have e0 := Joins.cell_of_block hbx 0
  have e1 := Joins.cell_of_block hbx 1
  simp at c0 e0 e1
  have hcX := lt_of_block hown
  have hr0 : Row (X.alloc (.cells #[.int .i64 x, .int .i64 y] 39 (0, 0))) 39 2 (.slice a n cp) n (zs.flatMap encCell) := hrow.keep fun g hg => Below.heap_alloc X _ g (hrow.lt g hg)
  have hcne : some c ≠ (Value.slice a n cp).ownBlock := fun e => hne e.symm
  have H1 := Lib.hid hr0
  have H2 := Lib.hid hcne
  have HO := Lib.hid hown
  have HXE := Lib.hid hX
  have HBX := Lib.hid hbX
  have HN := Lib.hid hn
  have t1 : decide ((n : Int) + 1 ≤ 4096) = true := decide_eq_true (by omega)
  have t2 : decide (n + 1 ≤ 4096) = true := decide_eq_true (by omega)
  rw [← hn]
  clear h hX hbX hbx hOX hn hrow hown hne hr0 hcne hcl hcm
  go_enter Try.func23, Try.ntmps23
  go_upto_region 1 with fail
  rw [← HXE.out]
  go_wp2_with ((at_builtin; go_loud (refine wpList_append_row _ rfl (.tmp 4) (.tmp 6) 24 rfl 39 i0 _ 2 16 Try.underlying24 hi hz0 hz1 hz2 rfl (by omega) (.slice a n cp) n (zs.flatMap encCell) rfl H1.out ⟨X.heap.size, 0, none⟩ 1 1 [.int .i64 x, .int .i64 y] rfl rfl (news_alloc X _ _ rfl) (by simp [Value.oneCell']) (by omega) (by unfold maxLen; omega) (by omega) _ rfl ?_; intro g off cap w1 hrow hg hat; have d1 : w1.cell? ⟨c, 0, none⟩ = some (.slice a n cp) := (hg.cell_far (a := ⟨c, 0, none⟩) (by simp; omega) H2.out).trans ((World.cell?_of_block (Below.heap_alloc X _ c hcX)).trans c0); have d2 : w1.frozen? ⟨c, 0, none⟩ = false := (hg.frozen_far (a := ⟨c, 0, none⟩) (by simp; omega) H2.out).trans ((World.frozen?_of_block (Below.heap_alloc X _ c hcX)).trans f0))))
  go_ret
  have hXs := HBX.out.size
  have hge : (Value.slice a n cp).ownBlock = some g ∨ w.heap.size ≤ g := by
    rcases hat with h | h
    · exact .inl h
    · exact .inr (by rw [h]; simp; omega)
  have hgc : g ≠ c := fun e => by
    rcases hat with h | h
    · exact H2.out (by rw [← e]; exact h.symm)
    · have hh : (X.alloc (.cells #[.int .i64 x, .int .i64 y] 39)).heap.size = X.heap.size + 1 := by simp
      omega
  have hb1 : w1.heap[c]? = some (.cells #[.slice a n cp] 24 (0, 0)) := (hg.block c (by simp; omega) H2.out).trans ((Below.heap_alloc X _ c hcX).trans HO.out)
  have hrow' : Row w1 39 2 (.slice (some ⟨g, off, none⟩) (n + 1) cap) (zs ++ [(x, y)]).length ((zs ++ [(x, y)]).flatMap encCell) := by
    rw [List.length_append, List.flatMap_append, ← HN.out]
    exact hrow
  refine ⟨rfl, _, ⟨Joins.block_setCell hb1 _, hrow'.keep fun q hq => ?_⟩, fun q hq => ?_, ?_⟩
  · have hq' : g = q := by simpa [Value.ownBlock] using hq
    exact Below.heap_setCell _ _ _ _ (by show q ≠ c; omega)
  · have hq' : g = q := by simpa [Value.ownBlock] using hq
    rw [← hq']; exact hge
  · refine Keeps.setCell (p := ⟨c, 0, none⟩) ?_ (fun _ => .inl rfl) _
    exact Keeps.grown (((Keeps.of_below HBX.out).alloc _)) hg fun q hq _ => .inr hq
end
end Go.Proofs.Ytabhpbkkjijfjaa
