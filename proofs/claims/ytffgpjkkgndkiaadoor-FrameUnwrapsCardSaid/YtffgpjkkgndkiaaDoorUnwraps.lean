/-
  frame.Unwrap: the texts of frames.
-/
import Derived.Test.YtffgpjkkgndkiaaDoorTextRow
import Derived.Test.YtffgpjkkgndkiaaDoorUnwrapMath
import Derived.Shelf.Strings.Trim
namespace Go.Proofs.YtffgpjkkgndkiaaDoor
set_option maxRecDepth 100000
open Go.RowKit Go.Shelf
def ltr_ren : Go.Shelf.Ren := ⟨fun | 160 => 28 | 232 => 57 | 231 => 56 | 227 => 58 | 234 => 60 | 233 => 59 | 236 => 62 | 235 => 61 | 228 => 99 | 271 => 102 | 151 => 101 | 197 => 100 | 120 => 124 | 152 => 123 | 260 => 122 | 137 => 142 | 119 => 143 | 224 => 140 | 225 => 139 | 217 => 138 | 266 => 151 | n => n, fun | 9 => 9 | 4 => 4 | 3 => 3 | 5 => 5 | 117 => 98 | 116 => 97 | 0 => 0 | 124 => 101 | 21 => 21 | 105 => 132 | 46 => 82 | 119 => 162 | 139 => 165 | 138 => 164 | n => n, fun | 3 => 2 | 4 => 3 | n => n⟩
theorem ltr : Go.Proofs.Lays.n160 Tryd.prog ltr_ren := {
  mixed := by kernel_rfl
  f119 := Tryd.func143.trans (congrArg some (by kernel_rfl))
  f120 := Tryd.func124.trans (congrArg some (by kernel_rfl))
  f137 := Tryd.func142.trans (congrArg some (by kernel_rfl))
  f151 := Tryd.func101.trans (congrArg some (by kernel_rfl))
  f152 := Tryd.func123.trans (congrArg some (by kernel_rfl))
  f160 := Tryd.func28.trans (congrArg some (by kernel_rfl))
  f197 := Tryd.func100.trans (congrArg some (by kernel_rfl))
  f217 := Tryd.func138.trans (congrArg some (by kernel_rfl))
  f224 := Tryd.func140.trans (congrArg some (by kernel_rfl))
  f225 := Tryd.func139.trans (congrArg some (by kernel_rfl))
  f227 := Tryd.func58.trans (congrArg some (by kernel_rfl))
  f228 := Tryd.func99.trans (congrArg some (by kernel_rfl))
  f231 := Tryd.func56.trans (congrArg some (by kernel_rfl))
  f232 := Tryd.func57.trans (congrArg some (by kernel_rfl))
  f233 := Tryd.func59.trans (congrArg some (by kernel_rfl))
  f234 := Tryd.func60.trans (congrArg some (by kernel_rfl))
  f235 := Tryd.func61.trans (congrArg some (by kernel_rfl))
  f236 := Tryd.func62.trans (congrArg some (by kernel_rfl))
  f260 := Tryd.func122.trans (congrArg some (by kernel_rfl))
  f266 := Tryd.func151.trans (congrArg some (by kernel_rfl))
  f271 := Tryd.func102.trans (congrArg some (by kernel_rfl))
  t0 := Tryd.underlying0
  a0 := Tryd.isAgg0
  z0 := Tryd.sizeOf0
  v0 := Tryd.zeroValue0
  t3 := Tryd.underlying3
  a3 := Tryd.isAgg3
  z3 := Tryd.sizeOf3
  v3 := Tryd.zeroValue3
  t4 := Tryd.underlying4
  a4 := Tryd.isAgg4
  z4 := Tryd.sizeOf4
  v4 := Tryd.zeroValue4
  t5 := Tryd.underlying5
  a5 := Tryd.isAgg5
  z5 := Tryd.sizeOf5
  v5 := Tryd.zeroValue5
  t9 := Tryd.underlying9
  a9 := Tryd.isAgg9
  z9 := Tryd.sizeOf9
  v9 := Tryd.zeroValue9
  t21 := Tryd.underlying21
  a21 := Tryd.isAgg21
  z21 := Tryd.sizeOf21
  v21 := Tryd.zeroValue21
  t46 := Tryd.underlying82
  a46 := Tryd.isAgg82
  z46 := Tryd.sizeOf82
  v46 := Tryd.zeroValue82
  t105 := Tryd.underlying132
  a105 := Tryd.isAgg132
  z105 := Tryd.sizeOf132
  v105 := Tryd.zeroValue132
  t116 := Tryd.underlying97
  a116 := Tryd.isAgg97
  z116 := Tryd.sizeOf97
  t117 := Tryd.underlying98
  a117 := Tryd.isAgg98
  z117 := Tryd.sizeOf98
  v117 := Tryd.zeroValue98
  t119 := Tryd.underlying162
  a119 := Tryd.isAgg162
  z119 := Tryd.sizeOf162
  t124 := Tryd.underlying101
  a124 := Tryd.isAgg101
  z124 := Tryd.sizeOf101
  v124 := Tryd.zeroValue101
  t138 := Tryd.underlying164
  a138 := Tryd.isAgg164
  z138 := Tryd.sizeOf164
  v138 := Tryd.zeroValue164
  t139 := Tryd.underlying165
  a139 := Tryd.isAgg165
  z139 := Tryd.sizeOf165
  v139 := Tryd.zeroValue165
  g3 := by kernel_rfl
  g4 := by kernel_rfl }


theorem drop_all (p : UInt8 → Bool) : ∀ m : List UInt8, (∀ x ∈ m.dropWhile p, p x = true) ↔ ∀ x ∈ m, p x = true
  | [] => by simp
  | a :: r => by
    rw [List.dropWhile_cons]
    cases h : p a with
    | true =>
      simp only [if_true]
      rw [drop_all p r]
      constructor
      · intro g x hx
        rcases List.mem_cons.1 hx with rfl | hx
        · exact h
        · exact g x hx
      · exact fun g x hx => g x (List.mem_cons_of_mem _ hx)
    | false => simp
theorem drop_nil (p : UInt8 → Bool) : ∀ m : List UInt8, m.dropWhile p = [] ↔ ∀ x ∈ m, p x = true
  | [] => by simp
  | a :: r => by
    rw [List.dropWhile_cons]
    cases h : p a with
    | true =>
      simp only [if_true]
      rw [drop_nil p r]
      constructor
      · intro g x hx
        rcases List.mem_cons.1 hx with rfl | hx
        · exact h
        · exact g x hx
      · exact fun g x hx => g x (List.mem_cons_of_mem _ hx)
    | false => simp [h]
theorem trimB_nil (l : List UInt8) : Lib.trimB l 0 = [] ↔ l.all (· == 0) = true := by
  unfold Lib.trimB Lib.trimLeftB Lib.trimRightB
  rw [drop_nil, List.all_eq_true]
  have h := drop_all (· == 0) l.reverse
  simp only [List.mem_reverse] at h ⊢
  exact h
/-- strings.Trim of noughts: empty exactly if all are noughts. -/
theorem trim_zero (l : List UInt8) (w : World) (hl : l.length ≤ 9223372036854775807) :
    Calls Tryd.prog 28 #[.string (txt l), .string ⟨#[0]⟩] w fun e w' => (∃ Z : ByteArray, e = .returned (.string Z) ∧ (Z.toList.isEmpty = l.all (· == 0)) ∧ (Z.toList = [] ↔ l.all (· == 0) = true)) ∧ Below w.heap.size w w' := by
  have h := Any.strings_Trim_one ltr (txt l) 0 (by decide) w (by rw [txt_size]; exact hl)
  change Calls Tryd.prog 28 _ _ _ at h
  refine h.mono ?_
  rintro e w' ⟨rfl, hw⟩
  refine ⟨⟨_, rfl, ?_, ?_⟩, ?_⟩
  · rw [ByteArray.toList_eq, txt_data]
    have := trimB_nil l
    cases h1 : Lib.trimB l 0 with
    | nil => rw [h1] at this; simp only [true_iff] at this; rw [this]; rfl
    | cons a r =>
      rw [h1] at this
      simp only [reduceCtorEq, false_iff, Bool.not_eq_true] at this
      rw [this]; rfl
  · rw [ByteArray.toList_eq, txt_data]
    exact trimB_nil l
  · rcases hw with rfl | rfl
    · exact Below.refl _ _
    · exact (Below.refl _ _).drew
/-- What Unwrap answers: the texts, or the error. -/
def unwRes (l : List UInt8) : List (List UInt8) × Int := match unwrapF l with
  | none => ([], 2)
  | some ts => (ts, 0)
def Unwrapped (w : World) (l : List UInt8) (e : Ending) (w' : World) : Prop :=
  ∃ v, e = .returned (.tuple #[v, .int .i64 (unwRes l).2]) ∧ Below w.heap.size w w' ∧ TextsOf w.heap.size w' v (unwRes l).1
theorem wrapF_ge (l : List UInt8) : 128 ≤ (wrapF l).length := by
  rw [wrapF]
  split
  · next h => rw [List.length_append, frameOf_length 1 (by simp; omega)]; omega
  · next h => rw [frameOf_length 0 (by omega)]; omega
theorem wrapsF_count : ∀ ts, 128 * ts.length ≤ (wrapsF ts).length
  | [] => by simp
  | t :: ts => by
    have h1 := wrapF_ge t
    have h2 := wrapsF_count ts
    rw [show wrapsF (t :: ts) = wrapF t ++ wrapsF ts from rfl, List.length_append, List.length_cons]
    omega
/-- No more texts than frames. -/
theorem unwRes_count (l : List UInt8) : 128 * (unwRes l).1.length ≤ l.length := by
  unfold unwRes unwrapF
  split
  · simp
  · next ts h =>
    split at h
    · cases h
    · next hm =>
      obtain ⟨_, _, h3⟩ := unwF_sound l [] false ts (by omega) (by simp) (.inr rfl) h
      rw [preF_nil, List.nil_append] at h3
      have := wrapsF_count ts
      rw [← h3] at this
      exact this
theorem unwRes_none {l : List UInt8} (h : unwrapF l = none) : unwRes l = ([], 2) := by rw [unwRes, h]
theorem unwRes_some {l : List UInt8} {ts : List (List UInt8)} (h : unwrapF l = some ts) : unwRes l = (ts, 0) := by rw [unwRes, h]
/-- What a walk asks of a text that holds a frame. -/
theorem frame_facts {r : List UInt8} (h : 128 ≤ r.length) : ∃ S, S = txt r ∧ (¬ S.toList = []) ∧ S.toList.isEmpty = false ∧ S.size = r.length ∧ (∃ h0 : 0 < S.size, S[0].toNat = frM (r.take 128)) ∧ (∃ h1 : 1 < S.size, S[1].toNat = frN (r.take 128)) ∧ frN (r.take 128) < 256 := by
  match r, h with
  | a :: b :: r, h =>
    refine ⟨_, rfl, by rw [txt_toList]; simp, by rw [txt_toList]; rfl, txt_size _, ⟨by rw [txt_size]; simp, rfl⟩, ⟨by rw [txt_size]; simp, rfl⟩, ?_⟩
    show b.toNat < 256
    exact b.toNat_lt
theorem unwF_stop {r t : List UInt8} {op : Bool} (hr : 128 ≤ r.length) (h : frOk (r.take 128) op = false) : unwF r t op = none := by
  rw [unwF, dif_neg (by omega), h]; simp
theorem unwF_more {r t : List UInt8} {op : Bool} (hr : 128 ≤ r.length) (h : frOk (r.take 128) op = true) (hm : frM (r.take 128) = 1) : unwF r t op = unwF (r.drop 128) (t ++ frT (r.take 128)) true := by
  rw [unwF, dif_neg (by omega), h, if_pos rfl, if_pos hm]
theorem unwF_last {r t : List UInt8} {op : Bool} (hr : 128 ≤ r.length) (h : frOk (r.take 128) op = true) (hm : ¬ frM (r.take 128) = 1) : unwF r t op = (unwF (r.drop 128) [] false).map ((t ++ frT (r.take 128)) :: ·) := by
  rw [unwF, dif_neg (by omega), h, if_pos rfl, if_neg hm]
theorem frOk_not {f : List UInt8} {op : Bool} (h : 1 < frM f ∨ 126 < frN f ∨ (frM f = 1 ∧ frN f < 126) ∨ (op = true ∧ frN f = 0) ∨ (f.drop (2 + frN f)).all (· == 0) = false) : frOk f op = false := by
  cases hk : frOk f op with
  | false => rfl
  | true =>
    obtain ⟨h1, h2, h3, h4, h5⟩ := frOk_iff.1 hk
    rcases h with h | h | h | h | h
    · omega
    · omega
    · exact absurd h h3
    · exact absurd h h4
    · rw [h5] at h; cases h
theorem frOk_yes {f : List UInt8} {op : Bool} (h1 : frM f ≤ 1) (h2 : frN f ≤ 126) (h3 : ¬ (frM f = 1 ∧ frN f < 126)) (h4 : ¬ (op = true ∧ frN f = 0)) (h5 : (f.drop (2 + frN f)).all (· == 0) = true) : frOk f op = true := frOk_iff.2 ⟨h1, h2, h3, h4, h5⟩
theorem frT_len (f : List UInt8) : (frT f).length ≤ frN f := by unfold frT; rw [List.length_take]; omega
set_option maxHeartbeats 4000000 in
theorem unwrap_any (l : List UInt8) (w : World) (hl : l.length ≤ 140737488351232) :
    Calls Tryd.prog 14 #[.string (txt l)] w (Unwrapped w l) := by
  obtain ⟨i0, hi, hz0, hz1, hz2⟩ := info_parts infoStr
  obtain ⟨S0, hS0⟩ : ∃ S0, S0 = txt l := ⟨_, rfl⟩
  have hsz0 : S0.size = l.length := by rw [hS0, txt_size]
  obtain ⟨L, hL⟩ : ∃ L, L = l.length := ⟨_, rfl⟩
  rw [← hL] at hsz0 hl
  rw [← hS0]
  have HS0 := Lib.hid hS0
  have HL := Lib.hid hL
  clear hS0 hL
  by_cases hm : L % 128 = 0
  · have hmi : ((L : Int) % 128) = 0 := by omega
    have hun : unwrapF l = unwF l [] false := by rw [unwrapF, if_neg (by have := HL.out; omega)]
    have HU := Lib.hid hun
    clear hun
    go_enter Tryd.func14, Tryd.ntmps14
    go_wp2_with fail
    rw [HS0.out, hmi]
    go_loopw [0, 4, 5, 6] (fun s out text opn wr => ∃ (r t : List UInt8) (ts : List (List UInt8)) (op : Bool), s = .string (txt r) ∧ text = .string (txt t) ∧ opn = .bool op ∧ Aside (unwF l [] false = (unwF r t op).map (ts ++ ·)) ∧ r.length % 128 = 0 ∧ r.length ≤ L ∧ t.length ≤ L ∧ t.length + r.length ≤ L ∧ 128 * ts.length + r.length ≤ L ∧ Below w.heap.size w wr ∧ TextsOf w.heap.size wr out ts) (fun s _ _ _ _ => strSz s)
    case atStart => exact ⟨l, [], [], false, rfl, rfl, rfl, by show _ = _; cases unwF l [] false <;> simp, by have := HL.out; omega, by have := HL.out; omega, by simp, by have := HL.out; simp; omega, by have := HL.out; simp; omega, Below.refl _ _, TextsOf.nil _ _⟩
    case round =>
      obtain ⟨r, t, ts, op, rfl, rfl, rfl, HE, hr1, hr2, ht, htr, hts, hB, hO⟩ := hrel
      have hz := hB.size
      by_cases hr0 : r.length = 0
      · obtain rfl : r = [] := List.eq_nil_of_length_eq_zero hr0
        have e1 : (txt []).toList = [] := txt_toList []
        have e2 : (txt []).toList.isEmpty = true := by rw [e1]; rfl
        cases op with
        | true =>
          have hres : unwRes l = ([], 2) := unwRes_none (by rw [HU.out, HE.out, unwF]; simp)
          have HR := Lib.hid hres
          clear hres
          go_wp2_with fail
          refine bodyPost_ret (v := .tuple #[.slice none 0 0, .int .i64 2]) (by simp [results, Tryd.results14, go_sem]) rfl ⟨.slice none 0 0, by rw [HR.out], hB, by rw [HR.out]; exact TextsOf.nil _ _⟩
        | false =>
          have hres : unwRes l = (ts, 0) := unwRes_some (by rw [HU.out, HE.out, unwF]; simp)
          have HR := Lib.hid hres
          obtain ⟨va, vc, rfl⟩ := hO.form
          obtain ⟨n, hn⟩ : ∃ n, n = ts.length := ⟨_, rfl⟩
          have HO := Lib.hid hO
          clear hres hO
          rw [← hn]
          have HN := Lib.hid hn
          clear hn
          go_wp2_with fail
          refine bodyPost_ret (v := .tuple #[.slice va n vc, .int .i64 0]) (by simp [results, Tryd.results14, go_sem]) rfl ⟨.slice va n vc, by rw [HR.out], hB, by rw [HR.out, HN.out]; exact HO.out⟩
      · have h128 : 128 ≤ r.length := by omega
        obtain ⟨S, hS, s1, s2, s3, ⟨p0, s4⟩, ⟨p1, s5⟩, s6⟩ := frame_facts h128
        rw [← hS]
        obtain ⟨m, hm⟩ : ∃ m, m = frM (r.take 128) := ⟨_, rfl⟩
        obtain ⟨n, hn⟩ : ∃ n, n = frN (r.take 128) := ⟨_, rfl⟩
        rw [← hm] at s4
        rw [← hn] at s5 s6
        have hsz : 128 ≤ S.size := by omega
        have bad : frOk (r.take 128) op = false → unwRes l = ([], 2) := fun h => unwRes_none (by rw [HU.out, HE.out, unwF_stop h128 h]; rfl)
        have HBAD := Lib.hid bad
        have HS := Lib.hid hS
        have HM := Lib.hid hm
        have HN := Lib.hid hn
        clear bad hS hm hn
        have stop : ∀ (w' : World), Below w.heap.size w w' → frOk (r.take 128) op = false → Unwrapped w l (.returned (.tuple #[.slice none 0 0, .int .i64 2])) w' := fun w' h hf => ⟨.slice none 0 0, by rw [HBAD.out hf], h, by rw [HBAD.out hf]; exact TextsOf.nil _ _⟩
        have HST := Lib.hid stop
        clear stop
        by_cases c1 : 1 < m
        · have c1' : (1 : Int) < (m : Int) := by omega
          go_wp2_with fail
          exact bodyPost_ret (v := .tuple #[.slice none 0 0, .int .i64 2]) (by simp [results, Tryd.results14, go_sem]) rfl (HST.out _ hB (frOk_not (.inl (by rw [← HM.out]; exact c1))))
        · have c1' : (m : Int) ≤ 1 := by omega
          by_cases c2 : 126 < n
          · have c2' : (126 : Int) < (n : Int) := by omega
            go_wp2_with fail
            exact bodyPost_ret (v := .tuple #[.slice none 0 0, .int .i64 2]) (by simp [results, Tryd.results14, go_sem]) rfl (HST.out _ hB (frOk_not (.inr (.inl (by rw [← HN.out]; exact c2)))))
          · have c2' : (n : Int) ≤ 126 := by omega
            rcases (show m = 1 ∨ m = 0 by omega) with rfl | rfl
            · cases op with
              | true =>
                have d1 : decide ((126 : Int) < (n : Int)) = false := by simp; omega
                by_cases c4 : n < 126
                · have c4' : (n : Int) < 126 := by omega
                  go_wp2_with fail
                  exact bodyPost_ret (v := .tuple #[.slice none 0 0, .int .i64 2]) (by simp [results, Tryd.results14, go_sem]) rfl (HST.out _ hB (frOk_not (.inr (.inr (.inl ⟨HM.out.symm, by rw [← HN.out]; exact c4⟩)))))
                · have d2 : decide ((n : Int) < 126) = false := by simp; omega
                  have d3 : ((n : Int) == 0) = false := by simp; omega
                  have hno : ¬ (true = true ∧ frN (r.take 128) = 0) := by rw [← HN.out]; omega
                  have HNO := Lib.hid hno
                  have htz : ∀ W : World, Calls Tryd.prog 28 #[.string (S.extract (2 + n) 128), .string ⟨#[0]⟩] W fun e w' => (∃ Z : ByteArray, e = .returned (.string Z) ∧ (Z.toList.isEmpty = ((r.take 128).drop (2 + n)).all (· == 0)) ∧ (Z.toList = [] ↔ ((r.take 128).drop (2 + n)).all (· == 0) = true)) ∧ Below W.heap.size W w' := fun W => by
                    have e : S.extract (2 + n) 128 = txt ((r.take 128).drop (2 + n)) := by rw [HS.out, extract_list]
                    rw [e]; exact trim_zero _ W (by simp; omega)
                  obtain ⟨al, hal⟩ : ∃ al, al = ((r.take 128).drop (2 + n)).all (· == 0) := ⟨_, rfl⟩
                  rw [← hal] at htz
                  have HTZ := Lib.hid htz
                  have HAL := Lib.hid hal
                  clear htz hal hno
                  go_wp2_with fail
                  refine (HTZ.out _).mono ?_
                  rintro e wz ⟨⟨Z, rfl, z1, z2⟩, hbz⟩
                  have hBz := hB.trans (hbz.mono hz)
                  cases al with
                  | false =>
                    have z3 : ¬ Z.toList = [] := by rw [z2]; simp
                    clear z2
                    go_wp2_with fail
                    exact bodyPost_ret (v := .tuple #[.slice none 0 0, .int .i64 2]) (by simp [results, Tryd.results14, go_sem]) rfl (HST.out _ hBz (frOk_not (.inr (.inr (.inr (.inr (by rw [← HN.out, ← HAL.out])))))))
                  | true =>
                    have z3 : Z.toList = [] := z2.2 rfl
                    have hok : frOk (r.take 128) true = true := frOk_yes (by rw [← HM.out]; omega) (by rw [← HN.out]; omega) (by rw [← HM.out, ← HN.out]; omega) (by have := HNO.out; simpa using this) (by rw [← HN.out, ← HAL.out])
                    have had : ∀ W : World, (Op.stringOp .add (txt t) (S.extract 2 (2 + n))).run Tryd.prog W = .ok (.string (txt (t ++ frT (r.take 128)))) W := fun W => by
                      have e : S.extract 2 (2 + n) = txt (frT (r.take 128)) := by
                        rw [HS.out, extract_list, frT, ← HN.out]
                        congr 1
                        rw [List.drop_take, List.drop_take, List.take_take]
                        congr 1
                        omega
                      have hft := frT_len (r.take 128)
                      rw [← HN.out] at hft
                      rw [e, run_string_add_sum (P := Tryd.prog) W _ _ (by rw [txt_size, txt_size]; omega), txt_add]
                    obtain ⟨T, hT⟩ : ∃ T, T = txt (t ++ frT (r.take 128)) := ⟨_, rfl⟩
                    rw [← hT] at had
                    have HT := Lib.hid hT
                    have HOK := Lib.hid hok
                    clear z2 hT hok
                    go_wp2_with fail
                    have hok := HOK.out
                    refine ⟨⟨r.drop 128, t ++ frT (r.take 128), ts, true, ?_, by rw [HT.out], rfl, ?_, by simp; omega, by simp; omega, ?_, ?_, by simp; omega, hB.trans (hbz.mono hz), hO.below hbz⟩, ?_⟩
                    · rw [HS.out, extract_list, List.take_length]
                    · show _ = _
                      rw [HE.out, unwF_more h128 hok (by rw [← HM.out])]
                    · have := frT_len (r.take 128); rw [← HN.out] at this; simp; omega
                    · have := frT_len (r.take 128); rw [← HN.out] at this; simp; omega
                    · simp [strSz, s3]; omega
              | false =>
                have d1 : decide ((126 : Int) < (n : Int)) = false := by simp; omega
                by_cases c4 : n < 126
                · have c4' : (n : Int) < 126 := by omega
                  go_wp2_with fail
                  exact bodyPost_ret (v := .tuple #[.slice none 0 0, .int .i64 2]) (by simp [results, Tryd.results14, go_sem]) rfl (HST.out _ hB (frOk_not (.inr (.inr (.inl ⟨HM.out.symm, by rw [← HN.out]; exact c4⟩)))))
                · have d2 : decide ((n : Int) < 126) = false := by simp; omega
                  have d3 : ((n : Int) == 0) = false := by simp; omega
                  have hno : ¬ (false = true ∧ frN (r.take 128) = 0) := by rw [← HN.out]; omega
                  have HNO := Lib.hid hno
                  have htz : ∀ W : World, Calls Tryd.prog 28 #[.string (S.extract (2 + n) 128), .string ⟨#[0]⟩] W fun e w' => (∃ Z : ByteArray, e = .returned (.string Z) ∧ (Z.toList.isEmpty = ((r.take 128).drop (2 + n)).all (· == 0)) ∧ (Z.toList = [] ↔ ((r.take 128).drop (2 + n)).all (· == 0) = true)) ∧ Below W.heap.size W w' := fun W => by
                    have e : S.extract (2 + n) 128 = txt ((r.take 128).drop (2 + n)) := by rw [HS.out, extract_list]
                    rw [e]; exact trim_zero _ W (by simp; omega)
                  obtain ⟨al, hal⟩ : ∃ al, al = ((r.take 128).drop (2 + n)).all (· == 0) := ⟨_, rfl⟩
                  rw [← hal] at htz
                  have HTZ := Lib.hid htz
                  have HAL := Lib.hid hal
                  clear htz hal hno
                  go_wp2_with fail
                  refine (HTZ.out _).mono ?_
                  rintro e wz ⟨⟨Z, rfl, z1, z2⟩, hbz⟩
                  have hBz := hB.trans (hbz.mono hz)
                  cases al with
                  | false =>
                    have z3 : ¬ Z.toList = [] := by rw [z2]; simp
                    clear z2
                    go_wp2_with fail
                    exact bodyPost_ret (v := .tuple #[.slice none 0 0, .int .i64 2]) (by simp [results, Tryd.results14, go_sem]) rfl (HST.out _ hBz (frOk_not (.inr (.inr (.inr (.inr (by rw [← HN.out, ← HAL.out])))))))
                  | true =>
                    have z3 : Z.toList = [] := z2.2 rfl
                    have hok : frOk (r.take 128) false = true := frOk_yes (by rw [← HM.out]; omega) (by rw [← HN.out]; omega) (by rw [← HM.out, ← HN.out]; omega) (by simp) (by rw [← HN.out, ← HAL.out])
                    have had : ∀ W : World, (Op.stringOp .add (txt t) (S.extract 2 (2 + n))).run Tryd.prog W = .ok (.string (txt (t ++ frT (r.take 128)))) W := fun W => by
                      have e : S.extract 2 (2 + n) = txt (frT (r.take 128)) := by
                        rw [HS.out, extract_list, frT, ← HN.out]
                        congr 1
                        rw [List.drop_take, List.drop_take, List.take_take]
                        congr 1
                        omega
                      have hft := frT_len (r.take 128)
                      rw [← HN.out] at hft
                      rw [e, run_string_add_sum (P := Tryd.prog) W _ _ (by rw [txt_size, txt_size]; omega), txt_add]
                    obtain ⟨T, hT⟩ : ∃ T, T = txt (t ++ frT (r.take 128)) := ⟨_, rfl⟩
                    rw [← hT] at had
                    have HT := Lib.hid hT
                    have HOK := Lib.hid hok
                    clear z2 hT hok
                    go_wp2_with fail
                    have hok := HOK.out
                    refine ⟨⟨r.drop 128, t ++ frT (r.take 128), ts, true, ?_, by rw [HT.out], rfl, ?_, by simp; omega, by simp; omega, ?_, ?_, by simp; omega, hB.trans (hbz.mono hz), hO.below hbz⟩, ?_⟩
                    · rw [HS.out, extract_list, List.take_length]
                    · show _ = _
                      rw [HE.out, unwF_more h128 hok (by rw [← HM.out])]
                    · have := frT_len (r.take 128); rw [← HN.out] at this; simp; omega
                    · have := frT_len (r.take 128); rw [← HN.out] at this; simp; omega
                    · simp [strSz, s3]; omega
            · cases op with
              | true =>
                have d1 : decide ((126 : Int) < (n : Int)) = false := by simp; omega
                by_cases c4 : n = 0
                · subst c4
                  go_wp2_with fail
                  exact bodyPost_ret (v := .tuple #[.slice none 0 0, .int .i64 2]) (by simp [results, Tryd.results14, go_sem]) rfl (HST.out _ hB (frOk_not (.inr (.inr (.inr (.inl ⟨rfl, HN.out.symm⟩))))))
                · have d3 : ((n : Int) == 0) = false := by simp; omega
                  have hno : ¬ (true = true ∧ frN (r.take 128) = 0) := by rw [← HN.out]; omega
                  have HNO := Lib.hid hno
                  have htz : ∀ W : World, Calls Tryd.prog 28 #[.string (S.extract (2 + n) 128), .string ⟨#[0]⟩] W fun e w' => (∃ Z : ByteArray, e = .returned (.string Z) ∧ (Z.toList.isEmpty = ((r.take 128).drop (2 + n)).all (· == 0)) ∧ (Z.toList = [] ↔ ((r.take 128).drop (2 + n)).all (· == 0) = true)) ∧ Below W.heap.size W w' := fun W => by
                    have e : S.extract (2 + n) 128 = txt ((r.take 128).drop (2 + n)) := by rw [HS.out, extract_list]
                    rw [e]; exact trim_zero _ W (by simp; omega)
                  obtain ⟨al, hal⟩ : ∃ al, al = ((r.take 128).drop (2 + n)).all (· == 0) := ⟨_, rfl⟩
                  rw [← hal] at htz
                  have HTZ := Lib.hid htz
                  have HAL := Lib.hid hal
                  clear htz hal hno
                  go_wp2_with fail
                  refine (HTZ.out _).mono ?_
                  rintro e wz ⟨⟨Z, rfl, z1, z2⟩, hbz⟩
                  have hBz := hB.trans (hbz.mono hz)
                  cases al with
                  | false =>
                    have z3 : ¬ Z.toList = [] := by rw [z2]; simp
                    clear z2
                    go_wp2_with fail
                    exact bodyPost_ret (v := .tuple #[.slice none 0 0, .int .i64 2]) (by simp [results, Tryd.results14, go_sem]) rfl (HST.out _ hBz (frOk_not (.inr (.inr (.inr (.inr (by rw [← HN.out, ← HAL.out])))))))
                  | true =>
                    have z3 : Z.toList = [] := z2.2 rfl
                    have hok : frOk (r.take 128) true = true := frOk_yes (by rw [← HM.out]; omega) (by rw [← HN.out]; omega) (by rw [← HM.out, ← HN.out]; omega) (by have := HNO.out; simpa using this) (by rw [← HN.out, ← HAL.out])
                    have had : ∀ W : World, (Op.stringOp .add (txt t) (S.extract 2 (2 + n))).run Tryd.prog W = .ok (.string (txt (t ++ frT (r.take 128)))) W := fun W => by
                      have e : S.extract 2 (2 + n) = txt (frT (r.take 128)) := by
                        rw [HS.out, extract_list, frT, ← HN.out]
                        congr 1
                        rw [List.drop_take, List.drop_take, List.take_take]
                        congr 1
                        omega
                      have hft := frT_len (r.take 128)
                      rw [← HN.out] at hft
                      rw [e, run_string_add_sum (P := Tryd.prog) W _ _ (by rw [txt_size, txt_size]; omega), txt_add]
                    obtain ⟨T, hT⟩ : ∃ T, T = txt (t ++ frT (r.take 128)) := ⟨_, rfl⟩
                    rw [← hT] at had
                    have HT := Lib.hid hT
                    have HOK := Lib.hid hok
                    clear z2 hT hok
                    obtain ⟨va, vc, rfl⟩ := hO.form
                    obtain ⟨k, hk⟩ : ∃ k, k = ts.length := ⟨_, rfl⟩
                    have HO := Lib.hid hO
                    have hoz := hO.below hbz
                    unfold TextsOf at hoz
                    rw [← hk] at hoz ⊢
                    have HOZ := Lib.hid hoz
                    have HTN := Lib.hid hk
                    have hkl : 128 * k ≤ L := by omega
                    have hzz := hbz.size
                    clear hoz hk hO
                    go_wp2_with ((at_builtin; refine wpList_append_lies _ rfl _ _ 31 rfl w.heap.size 9 i0 _ 1 16 Tryd.underlying31 hi hz0 hz1 hz2 rfl (by omega) (.slice va k vc) k (encS ts) rfl (HOZ.out.alloc _) ⟨wz.heap.size, 0, none⟩ 1 1 [.string T] rfl rfl (news_alloc _ _ _ (by simp)) (by simp [Value.oneCell']) (by omega) (by unfold maxLen; omega) (by omega) (by simp; omega) (wz.heap.size + 1) (by simp) ?_; intro g cap1 w1 hown1 hgrow1 hat1 hlt1))
                    have hok := HOK.out
                    refine ⟨⟨r.drop 128, [], ts ++ [t ++ frT (r.take 128)], false, ?_, rfl, rfl, ?_, by simp; omega, by simp; omega, by simp, by simp; omega, by simp; omega, ?_, ?_⟩, ?_⟩
                    · rw [HS.out, extract_list, List.take_length]
                    · show _ = _
                      rw [HE.out, unwF_last h128 hok (by rw [← HM.out]; decide)]
                      cases unwF (r.drop 128) [] false <;> simp
                    · exact ((hB.trans (hbz.mono hz)).alloc (by have := hbz.size; omega) _).grown hgrow1 (by simp; have := hbz.size; omega) (fun q hq => (HOZ.out.lt q hq).1)
                    · rw [TextsOf, List.length_append, List.length_singleton, encS_append, ← HTN.out]
                      have : encS [t ++ frT (r.take 128)] = [.string T] := by rw [HT.out]; rfl
                      rw [this]; exact hown1
                    · simp [strSz, s3]; omega
              | false =>
                have d1 : decide ((126 : Int) < (n : Int)) = false := by simp; omega
                · have hno : ¬ (false = true ∧ frN (r.take 128) = 0) := by simp
                  have HNO := Lib.hid hno
                  have htz : ∀ W : World, Calls Tryd.prog 28 #[.string (S.extract (2 + n) 128), .string ⟨#[0]⟩] W fun e w' => (∃ Z : ByteArray, e = .returned (.string Z) ∧ (Z.toList.isEmpty = ((r.take 128).drop (2 + n)).all (· == 0)) ∧ (Z.toList = [] ↔ ((r.take 128).drop (2 + n)).all (· == 0) = true)) ∧ Below W.heap.size W w' := fun W => by
                    have e : S.extract (2 + n) 128 = txt ((r.take 128).drop (2 + n)) := by rw [HS.out, extract_list]
                    rw [e]; exact trim_zero _ W (by simp; omega)
                  obtain ⟨al, hal⟩ : ∃ al, al = ((r.take 128).drop (2 + n)).all (· == 0) := ⟨_, rfl⟩
                  rw [← hal] at htz
                  have HTZ := Lib.hid htz
                  have HAL := Lib.hid hal
                  clear htz hal hno
                  go_wp2_with fail
                  refine (HTZ.out _).mono ?_
                  rintro e wz ⟨⟨Z, rfl, z1, z2⟩, hbz⟩
                  have hBz := hB.trans (hbz.mono hz)
                  cases al with
                  | false =>
                    have z3 : ¬ Z.toList = [] := by rw [z2]; simp
                    clear z2
                    go_wp2_with fail
                    exact bodyPost_ret (v := .tuple #[.slice none 0 0, .int .i64 2]) (by simp [results, Tryd.results14, go_sem]) rfl (HST.out _ hBz (frOk_not (.inr (.inr (.inr (.inr (by rw [← HN.out, ← HAL.out])))))))
                  | true =>
                    have z3 : Z.toList = [] := z2.2 rfl
                    have hok : frOk (r.take 128) false = true := frOk_yes (by rw [← HM.out]; omega) (by rw [← HN.out]; omega) (by rw [← HM.out, ← HN.out]; omega) (by simp) (by rw [← HN.out, ← HAL.out])
                    have had : ∀ W : World, (Op.stringOp .add (txt t) (S.extract 2 (2 + n))).run Tryd.prog W = .ok (.string (txt (t ++ frT (r.take 128)))) W := fun W => by
                      have e : S.extract 2 (2 + n) = txt (frT (r.take 128)) := by
                        rw [HS.out, extract_list, frT, ← HN.out]
                        congr 1
                        rw [List.drop_take, List.drop_take, List.take_take]
                        congr 1
                        omega
                      have hft := frT_len (r.take 128)
                      rw [← HN.out] at hft
                      rw [e, run_string_add_sum (P := Tryd.prog) W _ _ (by rw [txt_size, txt_size]; omega), txt_add]
                    obtain ⟨T, hT⟩ : ∃ T, T = txt (t ++ frT (r.take 128)) := ⟨_, rfl⟩
                    rw [← hT] at had
                    have HT := Lib.hid hT
                    have HOK := Lib.hid hok
                    clear z2 hT hok
                    obtain ⟨va, vc, rfl⟩ := hO.form
                    obtain ⟨k, hk⟩ : ∃ k, k = ts.length := ⟨_, rfl⟩
                    have HO := Lib.hid hO
                    have hoz := hO.below hbz
                    unfold TextsOf at hoz
                    rw [← hk] at hoz ⊢
                    have HOZ := Lib.hid hoz
                    have HTN := Lib.hid hk
                    have hkl : 128 * k ≤ L := by omega
                    have hzz := hbz.size
                    clear hoz hk hO
                    go_wp2_with ((at_builtin; refine wpList_append_lies _ rfl _ _ 31 rfl w.heap.size 9 i0 _ 1 16 Tryd.underlying31 hi hz0 hz1 hz2 rfl (by omega) (.slice va k vc) k (encS ts) rfl (HOZ.out.alloc _) ⟨wz.heap.size, 0, none⟩ 1 1 [.string T] rfl rfl (news_alloc _ _ _ (by simp)) (by simp [Value.oneCell']) (by omega) (by unfold maxLen; omega) (by omega) (by simp; omega) (wz.heap.size + 1) (by simp) ?_; intro g cap1 w1 hown1 hgrow1 hat1 hlt1))
                    have hok := HOK.out
                    refine ⟨⟨r.drop 128, [], ts ++ [t ++ frT (r.take 128)], false, ?_, rfl, rfl, ?_, by simp; omega, by simp; omega, by simp, by simp; omega, by simp; omega, ?_, ?_⟩, ?_⟩
                    · rw [HS.out, extract_list, List.take_length]
                    · show _ = _
                      rw [HE.out, unwF_last h128 hok (by rw [← HM.out]; decide)]
                      cases unwF (r.drop 128) [] false <;> simp
                    · exact ((hB.trans (hbz.mono hz)).alloc (by have := hbz.size; omega) _).grown hgrow1 (by simp; have := hbz.size; omega) (fun q hq => (HOZ.out.lt q hq).1)
                    · rw [TextsOf, List.length_append, List.length_singleton, encS_append, ← HTN.out]
                      have : encS [t ++ frT (r.take 128)] = [.string T] := by rw [HT.out]; rfl
                      rw [this]; exact hown1
                    · simp [strSz, s3]; omega
  · have hmi : ¬ ((L : Int) % 128) = 0 := by omega
    have hres : unwRes l = ([], 2) := unwRes_none (by rw [unwrapF, if_pos (by have := HL.out; omega)])
    have HR := Lib.hid hres
    clear hres
    go_enter Tryd.func14, Tryd.ntmps14
    go_wp2_with fail
    refine bodyPost_ret (v := .tuple #[.slice none 0 0, .int .i64 2]) (by simp [results, Tryd.results14, go_sem]) rfl ⟨.slice none 0 0, by rw [HR.out], Below.refl _ _, by rw [HR.out]; exact TextsOf.nil _ _⟩
end Go.Proofs.YtffgpjkkgndkiaaDoor
