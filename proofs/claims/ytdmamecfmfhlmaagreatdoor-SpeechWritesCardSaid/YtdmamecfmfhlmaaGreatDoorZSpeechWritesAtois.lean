/-
  strconv.Atoi at a whole number of at most 18 digits; strings.TrimPrefix at a minus sign.
-/
import Derived.Shelf.Strconv.AtoiAll
import Derived.Shelf.Strings.Prefix
import Derived.Lib.SmallJoins
import Derived.Test.YtdmamecfmfhlmaaGreatDoorZSpeechWritesSignMath
namespace Go.Proofs.YtdmamecfmfhlmaaGreatDoor
set_option maxRecDepth 100000
open Go.RowKit Go.Shelf
def lat_ren : Go.Shelf.Ren := ⟨fun | 172 => 58 | 244 => 77 | 245 => 78 | 247 => 88 | 279 => 89 | 280 => 90 | 281 => 91 | 282 => 92 | 287 => 95 | 316 => 96 | 171 => 8 | 205 => 97 | 321 => 98 | 322 => 99 | 243 => 18 | 246 => 35 | 283 => 48 | 284 => 49 | 285 => 50 | 286 => 51 | 129 => 68 | 317 => 67 | 318 => 69 | 319 => 70 | 320 => 71 | 337 => 80 | 338 => 81 | n => n, fun | 9 => 9 | 3 => 3 | 75 => 88 | 76 => 89 | 4 => 4 | 5 => 5 | 167 => 113 | 37 => 42 | 0 => 0 | 85 => 114 | 2 => 2 | 168 => 116 | 53 => 77 | 175 => 127 | 46 => 62 | 210 => 131 | 127 => 134 | 145 => 137 | 143 => 135 | 21 => 21 | 171 => 76 | 173 => 80 | 212 => 102 | 51 => 94 | 20 => 20 | 213 => 103 | 232 => 119 | 233 => 120 | 80 => 48 | n => n, fun | 15 => 9 | 16 => 10 | 17 => 3 | 18 => 5 | 19 => 6 | n => n⟩
theorem lat : Go.Proofs.LaysC.n172 Tryz.prog lat_ren := {
  mixed := by kernel_rfl
  f129 := Tryz.func68.trans (congrArg some (by kernel_rfl))
  f171 := Tryz.func8.trans (congrArg some (by kernel_rfl))
  f172 := Tryz.func58.trans (congrArg some (by kernel_rfl))
  f205 := Tryz.func97.trans (congrArg some (by kernel_rfl))
  f243 := Tryz.func18.trans (congrArg some (by kernel_rfl))
  f244 := Tryz.func77.trans (congrArg some (by kernel_rfl))
  f245 := Tryz.func78.trans (congrArg some (by kernel_rfl))
  f246 := Tryz.func35.trans (congrArg some (by kernel_rfl))
  f247 := Tryz.func88.trans (congrArg some (by kernel_rfl))
  f279 := Tryz.func89.trans (congrArg some (by kernel_rfl))
  f280 := Tryz.func90.trans (congrArg some (by kernel_rfl))
  f281 := Tryz.func91.trans (congrArg some (by kernel_rfl))
  f282 := Tryz.func92.trans (congrArg some (by kernel_rfl))
  f283 := Tryz.func48.trans (congrArg some (by kernel_rfl))
  f284 := Tryz.func49.trans (congrArg some (by kernel_rfl))
  f285 := Tryz.func50.trans (congrArg some (by kernel_rfl))
  f286 := Tryz.func51.trans (congrArg some (by kernel_rfl))
  f287 := Tryz.func95.trans (congrArg some (by kernel_rfl))
  f316 := Tryz.func96.trans (congrArg some (by kernel_rfl))
  f317 := Tryz.func67.trans (congrArg some (by kernel_rfl))
  f318 := Tryz.func69.trans (congrArg some (by kernel_rfl))
  f319 := Tryz.func70.trans (congrArg some (by kernel_rfl))
  f320 := Tryz.func71.trans (congrArg some (by kernel_rfl))
  f321 := Tryz.func98.trans (congrArg some (by kernel_rfl))
  f322 := Tryz.func99.trans (congrArg some (by kernel_rfl))
  f337 := Tryz.func80.trans (congrArg some (by kernel_rfl))
  f338 := Tryz.func81.trans (congrArg some (by kernel_rfl))
  t0 := Tryz.underlying0
  a0 := Tryz.isAgg0
  z0 := Tryz.sizeOf0
  v0 := Tryz.zeroValue0
  t2 := Tryz.underlying2
  a2 := Tryz.isAgg2
  z2 := Tryz.sizeOf2
  v2 := Tryz.zeroValue2
  t3 := Tryz.underlying3
  a3 := Tryz.isAgg3
  z3 := Tryz.sizeOf3
  v3 := Tryz.zeroValue3
  t4 := Tryz.underlying4
  a4 := Tryz.isAgg4
  z4 := Tryz.sizeOf4
  v4 := Tryz.zeroValue4
  t5 := Tryz.underlying5
  a5 := Tryz.isAgg5
  z5 := Tryz.sizeOf5
  v5 := Tryz.zeroValue5
  t9 := Tryz.underlying9
  a9 := Tryz.isAgg9
  z9 := Tryz.sizeOf9
  v9 := Tryz.zeroValue9
  t20 := Tryz.underlying20
  a20 := Tryz.isAgg20
  z20 := Tryz.sizeOf20
  v20 := Tryz.zeroValue20
  t21 := Tryz.underlying21
  a21 := Tryz.isAgg21
  z21 := Tryz.sizeOf21
  v21 := Tryz.zeroValue21
  t37 := Tryz.underlying42
  a37 := Tryz.isAgg42
  z37 := Tryz.sizeOf42
  v37 := Tryz.zeroValue42
  t46 := Tryz.underlying62
  a46 := Tryz.isAgg62
  z46 := Tryz.sizeOf62
  v46 := Tryz.zeroValue62
  t51 := Tryz.underlying94
  a51 := Tryz.isAgg94
  z51 := Tryz.sizeOf94
  v51 := Tryz.zeroValue94
  t53 := Tryz.underlying77
  a53 := Tryz.isAgg77
  z53 := Tryz.sizeOf77
  v53 := Tryz.zeroValue77
  t75 := Tryz.underlying88
  a75 := Tryz.isAgg88
  z75 := Tryz.sizeOf88
  v75 := Tryz.zeroValue88
  t76 := Tryz.underlying89
  a76 := Tryz.isAgg89
  z76 := Tryz.sizeOf89
  v76 := Tryz.zeroValue89
  t85 := Tryz.underlying114
  a85 := Tryz.isAgg114
  z85 := Tryz.sizeOf114
  v85 := Tryz.zeroValue114
  t127 := Tryz.underlying134
  a127 := Tryz.isAgg134
  z127 := Tryz.sizeOf134
  v127 := Tryz.zeroValue134
  t143 := Tryz.underlying135
  a143 := Tryz.isAgg135
  z143 := Tryz.sizeOf135
  v143 := Tryz.zeroValue135
  t145 := Tryz.underlying137
  a145 := Tryz.isAgg137
  z145 := Tryz.sizeOf137
  v145 := Tryz.zeroValue137
  t167 := Tryz.underlying113
  a167 := Tryz.isAgg113
  z167 := Tryz.sizeOf113
  v167 := Tryz.zeroValue113
  t168 := Tryz.underlying116
  a168 := Tryz.isAgg116
  z168 := Tryz.sizeOf116
  v168 := Tryz.zeroValue116
  t171 := Tryz.underlying76
  a171 := Tryz.isAgg76
  z171 := Tryz.sizeOf76
  v171 := Tryz.zeroValue76
  t173 := Tryz.underlying80
  a173 := Tryz.isAgg80
  z173 := Tryz.sizeOf80
  v173 := Tryz.zeroValue80
  t175 := Tryz.underlying127
  a175 := Tryz.isAgg127
  z175 := Tryz.sizeOf127
  v175 := Tryz.zeroValue127
  t210 := Tryz.underlying131
  a210 := Tryz.isAgg131
  z210 := Tryz.sizeOf131
  v210 := Tryz.zeroValue131
  t212 := Tryz.underlying102
  a212 := Tryz.isAgg102
  z212 := Tryz.sizeOf102
  v212 := Tryz.zeroValue102
  t213 := Tryz.underlying103
  a213 := Tryz.isAgg103
  z213 := Tryz.sizeOf103
  t232 := Tryz.underlying119
  a232 := Tryz.isAgg119
  z232 := Tryz.sizeOf119
  v232 := Tryz.zeroValue119
  t233 := Tryz.underlying120
  a233 := Tryz.isAgg120
  z233 := Tryz.sizeOf120
  v233 := Tryz.zeroValue120
  g15 := by kernel_rfl
  g16 := by kernel_rfl
  g17 := by kernel_rfl
  g18 := by kernel_rfl
  g19 := by kernel_rfl
  t80 := Tryz.underlying48
  a80 := Tryz.isAgg48
  z80 := Tryz.sizeOf48
  v80 := Tryz.zeroValue48
  i0 := by kernel_rfl
  i2 := by kernel_rfl
  i3 := by kernel_rfl
  i4 := by kernel_rfl
  i5 := by kernel_rfl
  i9 := by kernel_rfl
  i20 := by kernel_rfl
  i21 := by kernel_rfl
  i37 := by kernel_rfl
  i46 := by kernel_rfl
  i51 := by kernel_rfl
  i53 := by kernel_rfl
  i75 := by kernel_rfl
  i76 := by kernel_rfl
  i80 := by kernel_rfl
  i85 := by kernel_rfl
  i127 := by kernel_rfl
  i143 := by kernel_rfl
  i145 := by kernel_rfl
  i167 := by kernel_rfl
  i168 := by kernel_rfl
  i171 := by kernel_rfl
  i173 := by kernel_rfl
  i175 := by kernel_rfl
  i210 := by kernel_rfl
  i212 := by kernel_rfl
  i232 := by kernel_rfl
  i233 := by kernel_rfl
  m15 := by kernel_rfl
  m16 := by kernel_rfl
  m17 := by kernel_rfl
  m18 := by kernel_rfl
  m19 := by kernel_rfl
  c0 := by kernel_rfl
  c2 := by kernel_rfl
  c3 := by kernel_rfl
  c4 := by kernel_rfl
  c5 := by kernel_rfl
  c9 := by kernel_rfl
  c20 := by kernel_rfl
  c21 := by kernel_rfl
  c37 := by kernel_rfl
  c46 := by kernel_rfl
  c51 := by kernel_rfl
  c53 := by kernel_rfl
  c75 := by kernel_rfl
  c76 := by kernel_rfl
  c80 := by kernel_rfl
  c85 := by kernel_rfl
  c127 := by kernel_rfl
  c143 := by kernel_rfl
  c145 := by kernel_rfl
  c167 := by kernel_rfl
  c168 := by kernel_rfl
  c171 := by kernel_rfl
  c173 := by kernel_rfl
  c175 := by kernel_rfl
  c210 := by kernel_rfl
  c212 := by kernel_rfl
  c213 := by kernel_rfl
  c232 := by kernel_rfl
  c233 := by kernel_rfl }

def ltp_ren : Go.Shelf.Ren := ⟨fun | 101 => 57 | 208 => 76 | 206 => 87 | n => n, fun | 9 => 9 | 4 => 4 | 3 => 3 | n => n, fun | n => n⟩
theorem ltp : Go.Proofs.Lays.n101 Tryz.prog ltp_ren := {
  mixed := by kernel_rfl
  f101 := Tryz.func57.trans (congrArg some (by kernel_rfl))
  f206 := Tryz.func87.trans (congrArg some (by kernel_rfl))
  f208 := Tryz.func76.trans (congrArg some (by kernel_rfl))
  t3 := Tryz.underlying3
  a3 := Tryz.isAgg3
  z3 := Tryz.sizeOf3
  v3 := Tryz.zeroValue3
  t4 := Tryz.underlying4
  a4 := Tryz.isAgg4
  z4 := Tryz.sizeOf4
  v4 := Tryz.zeroValue4
  t9 := Tryz.underlying9
  a9 := Tryz.isAgg9
  z9 := Tryz.sizeOf9
  v9 := Tryz.zeroValue9 }

theorem parse_digits : ∀ (l : List UInt8) (acc k : Nat), l.all digC = true → acc < 10 ^ k → k + l.length ≤ 18 → Lib.parseUint10 acc l = .ok (l.foldl (fun v c => v * 10 + (c.toNat - 48)) acc)
  | [], acc, k, _, _, _ => rfl
  | c :: r, acc, k, hd, ha, hk => by
    rw [List.all_cons, Bool.and_eq_true] at hd
    have hc := digC_nat.mp hd.1
    rw [List.length_cons] at hk
    have h18 : 10 ^ k ≤ 10 ^ 17 := Nat.pow_le_pow_right (by omega) (by omega)
    have hv : acc * 10 + (c.toNat - 48) < 10 ^ (k + 1) := by rw [Nat.pow_succ]; omega
    rw [Lib.parseUint10, if_pos hc, if_neg (by omega), if_neg (by omega), parse_digits r _ (k + 1) hd.2 hv (by omega)]
    rfl
theorem parse_mag {t : List UInt8} (hd : t.all digC = true) (hn : t ≠ []) (hl : t.length ≤ 18) : Lib.parseMag t = .ok (decV t) := by
  rw [Lib.parseMag, if_neg hn, parse_digits t 0 0 hd (by decide) (by omega)]
  rfl
theorem foldD_lt : ∀ (l : List UInt8) (acc k : Nat), l.all digC = true → acc < 10 ^ k → l.foldl (fun v c => v * 10 + (c.toNat - 48)) acc < 10 ^ (k + l.length)
  | [], acc, k, _, ha => ha
  | c :: r, acc, k, hd, ha => by
    rw [List.all_cons, Bool.and_eq_true] at hd
    have hc := digC_nat.mp hd.1
    have hv : acc * 10 + (c.toNat - 48) < 10 ^ (k + 1) := by rw [Nat.pow_succ]; omega
    have := foldD_lt r _ (k + 1) hd.2 hv
    rw [List.length_cons, show k + (r.length + 1) = k + 1 + r.length by omega]
    exact this
theorem decV_lt18 {t : List UInt8} (hd : t.all digC = true) (hl : t.length ≤ 18) : decV t < 10 ^ 18 :=
  Nat.lt_of_lt_of_le (foldD_lt t 0 0 hd (by decide)) (Nat.pow_le_pow_right (by omega) (by omega))
theorem okS_parts {l : List UInt8} (h : okS l = true) : bare l ≠ [] ∧ (bare l).length ≤ 18 ∧ (bare l).all digC = true := by
  unfold okS okT at h
  simp only [Bool.and_eq_true, decide_eq_true_eq] at h
  exact ⟨h.1.1.1.1, h.1.1.1.2, h.2⟩
theorem okS_len {l : List UInt8} (h : okS l = true) : l.length ≤ 19 := by
  have hl := (okS_parts h).2.1
  unfold bare at hl
  split at hl
  · rw [List.length_tail] at hl; omega
  · omega
theorem atoi_num {l : List UInt8} (h : okS l = true) : Lib.atoiAll l = .ok (valS l) := by
  obtain ⟨hn, hl, hd⟩ := okS_parts h
  have hlt := decV_lt18 hd hl
  have hm := parse_mag hd hn hl
  cases l with
  | nil => exact absurd (show bare [] = [] by simp [bare]) hn
  | cons c r =>
    by_cases h45 : c.toNat = 45
    · have e1 : minus (c :: r) = true := by rw [minus_cons]; exact decide_eq_true h45
      have e2 : bare (c :: r) = r := by unfold bare; rw [if_pos e1]; rfl
      rw [e2] at hm hlt
      unfold Lib.atoiAll valS
      rw [e1, e2]
      simp only [h45, or_true, if_true, hm, true_and, not_true, false_and, if_false]
      rw [if_neg (by omega)]
    · have e1 : minus (c :: r) = false := by rw [minus_cons]; exact decide_eq_false h45
      have e2 : bare (c :: r) = c :: r := by unfold bare; rw [e1]; rfl
      rw [e2] at hm hlt hd
      have hc := digC_of_bare hd rfl
      have h43 : ¬ c.toNat = 43 := by omega
      unfold Lib.atoiAll valS
      rw [e1, e2]
      simp only [h45, h43, or_self, if_false, hm, false_and, not_false_iff, true_and, Bool.false_eq_true]
      rw [if_neg (by omega)]
theorem atoi_any (l : List UInt8) (w : World) (h : okS l = true) :
    Calls Tryz.prog 58 #[.string (txt l)] w fun e w' => e = .returned (.tuple #[.int .i64 (valS l), .nilIface]) ∧ Below w.heap.size w w' := by
  have hl := okS_len h
  have h := Any.strconv_Atoi_ok lat (txt l) (by rw [txt_size]; omega) (valS l) (by rw [txt_data]; exact atoi_num h) w
  change Calls Tryz.prog 58 _ _ _ at h
  refine h.mono ?_
  rintro e w' ⟨rfl, rfl | ⟨t, rfl⟩⟩
  · exact ⟨rfl, Below.refl _ _⟩
  · refine ⟨rfl, ?_⟩
    exact Joins.below_bytesWorld _ _ _ _ (Nat.le_refl _)
theorem trimPre (l : List UInt8) : Lib.trimPrefix l [45] = bare l := by
  unfold Lib.trimPrefix bare minus Lib.hasPrefix
  cases l with
  | nil => rfl
  | cons c r =>
    by_cases h : c = 45
    · subst h; rfl
    · have h1 : ([45] : List UInt8).isPrefixOf (c :: r) = false := by
        rw [List.isPrefixOf]
        have : ((45 : UInt8) == c) = false := by rw [beq_eq_false_iff_ne]; exact fun e => h e.symm
        rw [this]; rfl
      have h2 : decide ((c :: r).head? = some (45 : UInt8)) = false := by
        apply decide_eq_false
        intro e
        rw [List.head?_cons] at e
        exact h (Option.some.inj e)
      rw [h1, h2]; rfl
theorem trimMinus_any (l : List UInt8) (w : World) :
    Calls Tryz.prog 57 #[.string (txt l), .string (txt [45])] w fun e w' => e = .returned (.string (txt (bare l))) ∧ w' = w := by
  have h := Any.strings_TrimPrefix ltp (txt l) (txt [45]) w
  change Calls Tryz.prog 57 _ _ _ at h
  refine h.mono ?_
  rintro e w' ⟨rfl, rfl⟩
  refine ⟨?_, rfl⟩
  congr 2
  rw [txt_data, txt_data]
  show (⟨(Lib.trimPrefix l [45]).toArray⟩ : ByteArray) = txt (bare l)
  rw [trimPre]; rfl
end Go.Proofs.YtdmamecfmfhlmaaGreatDoor
