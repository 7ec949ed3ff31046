/-
  strconv.Atoi at a whole number of at most 18 digits; strings.TrimPrefix at a minus sign.
-/
import Derived.Test.YtdmamecfmfhlmaaDoorSignMath
import Derived.Shelf.Strconv.AtoiAll
import Derived.Shelf.Strings.Prefix
import Derived.Lib.SmallJoins
namespace Go.Proofs.YtdmamecfmfhlmaaDoor
set_option maxRecDepth 100000
open Go.RowKit Go.Shelf
def lat_ren : Go.Shelf.Ren := ⟨fun | 172 => 117 | 244 => 144 | 245 => 145 | 247 => 160 | 279 => 161 | 280 => 162 | 281 => 163 | 282 => 164 | 287 => 170 | 316 => 171 | 171 => 21 | 205 => 172 | 321 => 173 | 322 => 174 | 243 => 50 | 246 => 85 | 283 => 86 | 284 => 87 | 285 => 88 | 286 => 89 | 129 => 121 | 317 => 120 | 318 => 122 | 319 => 123 | 320 => 124 | 337 => 146 | 338 => 147 | n => n, fun | 9 => 9 | 3 => 3 | 75 => 72 | 76 => 73 | 4 => 4 | 5 => 5 | 167 => 179 | 37 => 66 | 0 => 0 | 85 => 180 | 2 => 2 | 168 => 182 | 53 => 54 | 175 => 198 | 46 => 93 | 210 => 202 | 127 => 109 | 145 => 207 | 143 => 205 | 21 => 21 | 171 => 120 | 173 => 123 | 212 => 155 | 51 => 134 | 20 => 20 | 213 => 156 | 232 => 185 | 233 => 186 | 80 => 79 | n => n, fun | 15 => 8 | 16 => 9 | 17 => 2 | 18 => 4 | 19 => 5 | n => n⟩
theorem lat : Go.Proofs.LaysC.n172 Tryd.prog lat_ren := {
  mixed := by kernel_rfl
  f129 := Tryd.func121.trans (congrArg some (by kernel_rfl))
  f171 := Tryd.func21.trans (congrArg some (by kernel_rfl))
  f172 := Tryd.func117.trans (congrArg some (by kernel_rfl))
  f205 := Tryd.func172.trans (congrArg some (by kernel_rfl))
  f243 := Tryd.func50.trans (congrArg some (by kernel_rfl))
  f244 := Tryd.func144.trans (congrArg some (by kernel_rfl))
  f245 := Tryd.func145.trans (congrArg some (by kernel_rfl))
  f246 := Tryd.func85.trans (congrArg some (by kernel_rfl))
  f247 := Tryd.func160.trans (congrArg some (by kernel_rfl))
  f279 := Tryd.func161.trans (congrArg some (by kernel_rfl))
  f280 := Tryd.func162.trans (congrArg some (by kernel_rfl))
  f281 := Tryd.func163.trans (congrArg some (by kernel_rfl))
  f282 := Tryd.func164.trans (congrArg some (by kernel_rfl))
  f283 := Tryd.func86.trans (congrArg some (by kernel_rfl))
  f284 := Tryd.func87.trans (congrArg some (by kernel_rfl))
  f285 := Tryd.func88.trans (congrArg some (by kernel_rfl))
  f286 := Tryd.func89.trans (congrArg some (by kernel_rfl))
  f287 := Tryd.func170.trans (congrArg some (by kernel_rfl))
  f316 := Tryd.func171.trans (congrArg some (by kernel_rfl))
  f317 := Tryd.func120.trans (congrArg some (by kernel_rfl))
  f318 := Tryd.func122.trans (congrArg some (by kernel_rfl))
  f319 := Tryd.func123.trans (congrArg some (by kernel_rfl))
  f320 := Tryd.func124.trans (congrArg some (by kernel_rfl))
  f321 := Tryd.func173.trans (congrArg some (by kernel_rfl))
  f322 := Tryd.func174.trans (congrArg some (by kernel_rfl))
  f337 := Tryd.func146.trans (congrArg some (by kernel_rfl))
  f338 := Tryd.func147.trans (congrArg some (by kernel_rfl))
  t0 := Tryd.underlying0
  a0 := Tryd.isAgg0
  z0 := Tryd.sizeOf0
  v0 := Tryd.zeroValue0
  t2 := Tryd.underlying2
  a2 := Tryd.isAgg2
  z2 := Tryd.sizeOf2
  v2 := Tryd.zeroValue2
  t3 := Tryd.underlying3
  a3 := Tryd.isAgg3
  z3 := Tryd.sizeOf3
  v3 := Tryd.zeroValue3
  t4 := Tryd.underlying4
  a4 := Tryd.isAgg4
  z4 := Tryd.sizeOf4
  v4 := Tryd.zeroValue4
  t5 := Tryd.underlying5
  a5 := Tryd.isAgg5
  z5 := Tryd.sizeOf5
  v5 := Tryd.zeroValue5
  t9 := Tryd.underlying9
  a9 := Tryd.isAgg9
  z9 := Tryd.sizeOf9
  v9 := Tryd.zeroValue9
  t20 := Tryd.underlying20
  a20 := Tryd.isAgg20
  z20 := Tryd.sizeOf20
  v20 := Tryd.zeroValue20
  t21 := Tryd.underlying21
  a21 := Tryd.isAgg21
  z21 := Tryd.sizeOf21
  v21 := Tryd.zeroValue21
  t37 := Tryd.underlying66
  a37 := Tryd.isAgg66
  z37 := Tryd.sizeOf66
  v37 := Tryd.zeroValue66
  t46 := Tryd.underlying93
  a46 := Tryd.isAgg93
  z46 := Tryd.sizeOf93
  v46 := Tryd.zeroValue93
  t51 := Tryd.underlying134
  a51 := Tryd.isAgg134
  z51 := Tryd.sizeOf134
  v51 := Tryd.zeroValue134
  t53 := Tryd.underlying54
  a53 := Tryd.isAgg54
  z53 := Tryd.sizeOf54
  v53 := Tryd.zeroValue54
  t75 := Tryd.underlying72
  a75 := Tryd.isAgg72
  z75 := Tryd.sizeOf72
  v75 := Tryd.zeroValue72
  t76 := Tryd.underlying73
  a76 := Tryd.isAgg73
  z76 := Tryd.sizeOf73
  v76 := Tryd.zeroValue73
  t85 := Tryd.underlying180
  a85 := Tryd.isAgg180
  z85 := Tryd.sizeOf180
  v85 := Tryd.zeroValue180
  t127 := Tryd.underlying109
  a127 := Tryd.isAgg109
  z127 := Tryd.sizeOf109
  v127 := Tryd.zeroValue109
  t143 := Tryd.underlying205
  a143 := Tryd.isAgg205
  z143 := Tryd.sizeOf205
  v143 := Tryd.zeroValue205
  t145 := Tryd.underlying207
  a145 := Tryd.isAgg207
  z145 := Tryd.sizeOf207
  v145 := Tryd.zeroValue207
  t167 := Tryd.underlying179
  a167 := Tryd.isAgg179
  z167 := Tryd.sizeOf179
  v167 := Tryd.zeroValue179
  t168 := Tryd.underlying182
  a168 := Tryd.isAgg182
  z168 := Tryd.sizeOf182
  v168 := Tryd.zeroValue182
  t171 := Tryd.underlying120
  a171 := Tryd.isAgg120
  z171 := Tryd.sizeOf120
  v171 := Tryd.zeroValue120
  t173 := Tryd.underlying123
  a173 := Tryd.isAgg123
  z173 := Tryd.sizeOf123
  v173 := Tryd.zeroValue123
  t175 := Tryd.underlying198
  a175 := Tryd.isAgg198
  z175 := Tryd.sizeOf198
  v175 := Tryd.zeroValue198
  t210 := Tryd.underlying202
  a210 := Tryd.isAgg202
  z210 := Tryd.sizeOf202
  v210 := Tryd.zeroValue202
  t212 := Tryd.underlying155
  a212 := Tryd.isAgg155
  z212 := Tryd.sizeOf155
  v212 := Tryd.zeroValue155
  t213 := Tryd.underlying156
  a213 := Tryd.isAgg156
  z213 := Tryd.sizeOf156
  t232 := Tryd.underlying185
  a232 := Tryd.isAgg185
  z232 := Tryd.sizeOf185
  v232 := Tryd.zeroValue185
  t233 := Tryd.underlying186
  a233 := Tryd.isAgg186
  z233 := Tryd.sizeOf186
  v233 := Tryd.zeroValue186
  g15 := by kernel_rfl
  g16 := by kernel_rfl
  g17 := by kernel_rfl
  g18 := by kernel_rfl
  g19 := by kernel_rfl
  t80 := Tryd.underlying79
  a80 := Tryd.isAgg79
  z80 := Tryd.sizeOf79
  v80 := Tryd.zeroValue79
  i0 := by kernel_rfl
  i2 := by kernel_rfl
  i3 := by kernel_rfl
  i4 := by kernel_rfl
  i5 := by kernel_rfl
  i9 := by kernel_rfl
  i20 := by kernel_rfl
  i21 := by kernel_rfl
  i37 := by kernel_rfl
  i46 := by kernel_rfl
  i51 := by kernel_rfl
  i53 := by kernel_rfl
  i75 := by kernel_rfl
  i76 := by kernel_rfl
  i80 := by kernel_rfl
  i85 := by kernel_rfl
  i127 := by kernel_rfl
  i143 := by kernel_rfl
  i145 := by kernel_rfl
  i167 := by kernel_rfl
  i168 := by kernel_rfl
  i171 := by kernel_rfl
  i173 := by kernel_rfl
  i175 := by kernel_rfl
  i210 := by kernel_rfl
  i212 := by kernel_rfl
  i232 := by kernel_rfl
  i233 := by kernel_rfl
  m15 := by kernel_rfl
  m16 := by kernel_rfl
  m17 := by kernel_rfl
  m18 := by kernel_rfl
  m19 := by kernel_rfl
  c0 := by kernel_rfl
  c2 := by kernel_rfl
  c3 := by kernel_rfl
  c4 := by kernel_rfl
  c5 := by kernel_rfl
  c9 := by kernel_rfl
  c20 := by kernel_rfl
  c21 := by kernel_rfl
  c37 := by kernel_rfl
  c46 := by kernel_rfl
  c51 := by kernel_rfl
  c53 := by kernel_rfl
  c75 := by kernel_rfl
  c76 := by kernel_rfl
  c80 := by kernel_rfl
  c85 := by kernel_rfl
  c127 := by kernel_rfl
  c143 := by kernel_rfl
  c145 := by kernel_rfl
  c167 := by kernel_rfl
  c168 := by kernel_rfl
  c171 := by kernel_rfl
  c173 := by kernel_rfl
  c175 := by kernel_rfl
  c210 := by kernel_rfl
  c212 := by kernel_rfl
  c213 := by kernel_rfl
  c232 := by kernel_rfl
  c233 := by kernel_rfl }

def ltp_ren : Go.Shelf.Ren := ⟨fun | 101 => 116 | 208 => 143 | 206 => 159 | n => n, fun | 9 => 9 | 4 => 4 | 3 => 3 | n => n, fun | n => n⟩
theorem ltp : Go.Proofs.Lays.n101 Tryd.prog ltp_ren := {
  mixed := by kernel_rfl
  f101 := Tryd.func116.trans (congrArg some (by kernel_rfl))
  f206 := Tryd.func159.trans (congrArg some (by kernel_rfl))
  f208 := Tryd.func143.trans (congrArg some (by kernel_rfl))
  t3 := Tryd.underlying3
  a3 := Tryd.isAgg3
  z3 := Tryd.sizeOf3
  v3 := Tryd.zeroValue3
  t4 := Tryd.underlying4
  a4 := Tryd.isAgg4
  z4 := Tryd.sizeOf4
  v4 := Tryd.zeroValue4
  t9 := Tryd.underlying9
  a9 := Tryd.isAgg9
  z9 := Tryd.sizeOf9
  v9 := Tryd.zeroValue9 }

theorem parse_digits : ∀ (l : List UInt8) (acc k : Nat), l.all digC = true → acc < 10 ^ k → k + l.length ≤ 18 → Lib.parseUint10 acc l = .ok (l.foldl (fun v c => v * 10 + (c.toNat - 48)) acc)
  | [], acc, k, _, _, _ => rfl
  | c :: r, acc, k, hd, ha, hk => by
    rw [List.all_cons, Bool.and_eq_true] at hd
    have hc := digC_nat.mp hd.1
    rw [List.length_cons] at hk
    have h18 : 10 ^ k ≤ 10 ^ 17 := Nat.pow_le_pow_right (by omega) (by omega)
    have hv : acc * 10 + (c.toNat - 48) < 10 ^ (k + 1) := by rw [Nat.pow_succ]; omega
    rw [Lib.parseUint10, if_pos hc, if_neg (by omega), if_neg (by omega), parse_digits r _ (k + 1) hd.2 hv (by omega)]
    rfl
theorem parse_mag {t : List UInt8} (hd : t.all digC = true) (hn : t ≠ []) (hl : t.length ≤ 18) : Lib.parseMag t = .ok (decV t) := by
  rw [Lib.parseMag, if_neg hn, parse_digits t 0 0 hd (by decide) (by omega)]
  rfl
theorem foldD_lt : ∀ (l : List UInt8) (acc k : Nat), l.all digC = true → acc < 10 ^ k → l.foldl (fun v c => v * 10 + (c.toNat - 48)) acc < 10 ^ (k + l.length)
  | [], acc, k, _, ha => ha
  | c :: r, acc, k, hd, ha => by
    rw [List.all_cons, Bool.and_eq_true] at hd
    have hc := digC_nat.mp hd.1
    have hv : acc * 10 + (c.toNat - 48) < 10 ^ (k + 1) := by rw [Nat.pow_succ]; omega
    have := foldD_lt r _ (k + 1) hd.2 hv
    rw [List.length_cons, show k + (r.length + 1) = k + 1 + r.length by omega]
    exact this
theorem decV_lt18 {t : List UInt8} (hd : t.all digC = true) (hl : t.length ≤ 18) : decV t < 10 ^ 18 :=
  Nat.lt_of_lt_of_le (foldD_lt t 0 0 hd (by decide)) (Nat.pow_le_pow_right (by omega) (by omega))
theorem okS_parts {l : List UInt8} (h : okS l = true) : bare l ≠ [] ∧ (bare l).length ≤ 18 ∧ (bare l).all digC = true := by
  unfold okS okT at h
  simp only [Bool.and_eq_true, decide_eq_true_eq] at h
  exact ⟨h.1.1.1.1, h.1.1.1.2, h.2⟩
theorem okS_len {l : List UInt8} (h : okS l = true) : l.length ≤ 19 := by
  have hl := (okS_parts h).2.1
  unfold bare at hl
  split at hl
  · rw [List.length_tail] at hl; omega
  · omega
theorem atoi_num {l : List UInt8} (h : okS l = true) : Lib.atoiAll l = .ok (valS l) := by
  obtain ⟨hn, hl, hd⟩ := okS_parts h
  have hlt := decV_lt18 hd hl
  have hm := parse_mag hd hn hl
  cases l with
  | nil => exact absurd (show bare [] = [] by simp [bare]) hn
  | cons c r =>
    by_cases h45 : c.toNat = 45
    · have e1 : minus (c :: r) = true := by rw [minus_cons]; exact decide_eq_true h45
      have e2 : bare (c :: r) = r := by unfold bare; rw [if_pos e1]; rfl
      rw [e2] at hm hlt
      unfold Lib.atoiAll valS
      rw [e1, e2]
      simp only [h45, or_true, if_true, hm, true_and, not_true, false_and, if_false]
      rw [if_neg (by omega)]
    · have e1 : minus (c :: r) = false := by rw [minus_cons]; exact decide_eq_false h45
      have e2 : bare (c :: r) = c :: r := by unfold bare; rw [e1]; rfl
      rw [e2] at hm hlt hd
      have hc := digC_of_bare hd rfl
      have h43 : ¬ c.toNat = 43 := by omega
      unfold Lib.atoiAll valS
      rw [e1, e2]
      simp only [h45, h43, or_self, if_false, hm, false_and, not_false_iff, true_and, Bool.false_eq_true]
      rw [if_neg (by omega)]
theorem atoi_any (l : List UInt8) (w : World) (h : okS l = true) :
    Calls Tryd.prog 117 #[.string (txt l)] w fun e w' => e = .returned (.tuple #[.int .i64 (valS l), .nilIface]) ∧ Below w.heap.size w w' := by
  have hl := okS_len h
  have h := Any.strconv_Atoi_ok lat (txt l) (by rw [txt_size]; omega) (valS l) (by rw [txt_data]; exact atoi_num h) w
  change Calls Tryd.prog 117 _ _ _ at h
  refine h.mono ?_
  rintro e w' ⟨rfl, rfl | ⟨t, rfl⟩⟩
  · exact ⟨rfl, Below.refl _ _⟩
  · refine ⟨rfl, ?_⟩
    exact Joins.below_bytesWorld _ _ _ _ (Nat.le_refl _)
theorem trimPre (l : List UInt8) : Lib.trimPrefix l [45] = bare l := by
  unfold Lib.trimPrefix bare minus Lib.hasPrefix
  cases l with
  | nil => rfl
  | cons c r =>
    by_cases h : c = 45
    · subst h; rfl
    · have h1 : ([45] : List UInt8).isPrefixOf (c :: r) = false := by
        rw [List.isPrefixOf]
        have : ((45 : UInt8) == c) = false := by rw [beq_eq_false_iff_ne]; exact fun e => h e.symm
        rw [this]; rfl
      have h2 : decide ((c :: r).head? = some (45 : UInt8)) = false := by
        apply decide_eq_false
        intro e
        rw [List.head?_cons] at e
        exact h (Option.some.inj e)
      rw [h1, h2]; rfl
theorem trimMinus_any (l : List UInt8) (w : World) :
    Calls Tryd.prog 116 #[.string (txt l), .string (txt [45])] w fun e w' => e = .returned (.string (txt (bare l))) ∧ w' = w := by
  have h := Any.strings_TrimPrefix ltp (txt l) (txt [45]) w
  change Calls Tryd.prog 116 _ _ _ at h
  refine h.mono ?_
  rintro e w' ⟨rfl, rfl⟩
  refine ⟨?_, rfl⟩
  congr 2
  rw [txt_data, txt_data]
  show (⟨(Lib.trimPrefix l [45]).toArray⟩ : ByteArray) = txt (bare l)
  rw [trimPre]; rfl
end Go.Proofs.YtdmamecfmfhlmaaDoor
