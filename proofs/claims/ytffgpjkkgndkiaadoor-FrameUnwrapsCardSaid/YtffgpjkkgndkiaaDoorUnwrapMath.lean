/-
  The texts of frames: what the program reads off, and what the document collects and wraps again; that the two agree. Plain lists.
-/
import Derived.Test.YtffgpjkkgndkiaaDoorFrameMath
namespace Go.Proofs.YtffgpjkkgndkiaaDoor
set_option maxRecDepth 100000

def frN (f : List UInt8) : Nat := (f.getD 1 0).toNat
def frM (f : List UInt8) : Nat := (f.getD 0 0).toNat
def frT (f : List UInt8) : List UInt8 := (f.drop 2).take (frN f)
/-- Is it a frame that may stand here? -/
def frOk (f : List UInt8) (op : Bool) : Bool :=
  decide (frM f ≤ 1) && decide (frN f ≤ 126) && !(decide (frM f = 1) && decide (frN f < 126)) && !(op && decide (frN f = 0)) && (f.drop (2 + frN f)).all (· == 0)
def unwF (s text : List UInt8) (op : Bool) : Option (List (List UInt8)) :=
  if _h : s.length = 0 then (if op then none else some [])
  else if frOk (s.take 128) op then
    (if frM (s.take 128) = 1 then unwF (s.drop 128) (text ++ frT (s.take 128)) true else (unwF (s.drop 128) [] false).map ((text ++ frT (s.take 128)) :: ·))
  else none
termination_by s.length
decreasing_by all_goals (simp; omega)
/-- What the document collects. -/
def refF (s text : List UInt8) : Option (List (List UInt8)) :=
  if _h : s.length = 0 then some []
  else if frN (s.take 128) ≤ 126 ∧ frM (s.take 128) ≤ 1 then
    (if frM (s.take 128) = 0 then (refF (s.drop 128) []).map ((text ++ frT (s.take 128)) :: ·) else refF (s.drop 128) (text ++ frT (s.take 128)))
  else none
termination_by s.length
decreasing_by all_goals (simp; omega)
def wrapsF (ts : List (List UInt8)) : List UInt8 := ts.flatMap wrapF
/-- P7.3, by the program's road and by the document's. -/
def unwrapF (s : List UInt8) : Option (List (List UInt8)) := if s.length % 128 ≠ 0 then none else unwF s [] false
def unwrapR (s : List UInt8) : Option (List (List UInt8)) :=
  if s.length % 128 ≠ 0 then none else match refF s [] with
    | none => none
    | some ts => if wrapsF ts = s then some ts else none

theorem frOk_iff {f : List UInt8} {op : Bool} : frOk f op = true ↔ frM f ≤ 1 ∧ frN f ≤ 126 ∧ ¬ (frM f = 1 ∧ frN f < 126) ∧ ¬ (op = true ∧ frN f = 0) ∧ (f.drop (2 + frN f)).all (· == 0) = true := by
  unfold frOk
  simp only [Bool.and_eq_true, decide_eq_true_eq, Bool.not_eq_true', Bool.and_eq_false_iff, decide_eq_false_iff_not, and_assoc]
  constructor
  · rintro ⟨h1, h2, h3, h4, h5⟩
    refine ⟨h1, h2, ?_, ?_, h5⟩
    · rintro ⟨a, b⟩; rcases h3 with h3 | h3 <;> contradiction
    · rintro ⟨a, b⟩; rcases h4 with h4 | h4
      · rw [a] at h4; cases h4
      · contradiction
  · rintro ⟨h1, h2, h3, h4, h5⟩
    refine ⟨h1, h2, ?_, ?_, h5⟩
    · by_cases a : frM f = 1
      · exact .inr fun b => h3 ⟨a, b⟩
      · exact .inl a
    · cases op
      · exact .inl rfl
      · exact .inr fun b => h4 ⟨rfl, b⟩
theorem all_zero {l : List UInt8} (h : l.all (· == 0) = true) : l = List.replicate l.length 0 := by
  refine List.eq_replicate_iff.2 ⟨rfl, fun b hb => ?_⟩
  have := List.all_eq_true.1 h b hb
  simpa using this
/-- A frame that may stand is the frame of its text. -/
theorem frame_of {f : List UInt8} (hl : f.length = 128) (hm : frM f ≤ 1) (hn : frN f ≤ 126) (hz : (f.drop (2 + frN f)).all (· == 0) = true) : f = frameOf (UInt8.ofNat (frM f)) (frT f) ∧ (frT f).length = frN f := by
  match f, hl with
  | a :: b :: r, hl =>
    have hr : r.length = 126 := by simpa using hl
    have e1 : frN (a :: b :: r) = b.toNat := rfl
    have e2 : frM (a :: b :: r) = a.toNat := rfl
    have e3 : frT (a :: b :: r) = r.take b.toNat := rfl
    rw [e1] at hn hz
    have ht : (r.take b.toNat).length = b.toNat := by rw [List.length_take]; omega
    rw [e2, e3, e1]
    refine ⟨?_, ht⟩
    rw [frameOf, ht]
    have hz' : (r.drop b.toNat).all (· == 0) = true := by
      have : (a :: b :: r).drop (2 + b.toNat) = r.drop b.toNat := by rw [Nat.add_comm]; rfl
      rw [this] at hz; exact hz
    have hd := all_zero hz'
    rw [List.length_drop, hr] at hd
    have e4 : UInt8.ofNat a.toNat = a := by simp
    have e5 : UInt8.ofNat b.toNat = b := by simp
    rw [e4, e5, ← hd, List.take_append_drop]
theorem frame_parts (m : UInt8) {l : List UInt8} (h : l.length ≤ 126) : frM (frameOf m l) = m.toNat ∧ frN (frameOf m l) = l.length ∧ frT (frameOf m l) = l ∧ ((frameOf m l).drop (2 + l.length)).all (· == 0) = true := by
  have e1 : frN (frameOf m l) = l.length := by
    show (UInt8.ofNat l.length).toNat = l.length
    simp; omega
  refine ⟨rfl, e1, ?_, ?_⟩
  · unfold frT
    rw [e1]
    show (l ++ List.replicate (126 - l.length) 0).take l.length = l
    exact List.take_left
  · have : (frameOf m l).drop (2 + l.length) = List.replicate (126 - l.length) 0 := by
      rw [Nat.add_comm]
      show (l ++ List.replicate (126 - l.length) 0).drop l.length = _
      exact List.drop_left
    rw [this, List.all_eq_true]
    intro x hx
    have := (List.mem_replicate.1 hx).2
    simp [this]
def preF (l : List UInt8) : List UInt8 := if _h : l.length = 0 then [] else frameOf 1 (l.take 126) ++ preF (l.drop 126)
termination_by l.length
decreasing_by simp; omega
theorem preF_nil : preF [] = [] := by rw [preF]; simp
theorem refF_nil : refF [] [] = some [] := by rw [refF]; simp
theorem unwF_nil : unwF [] [] false = some [] := by rw [unwF]; simp
theorem wrapF_pre (text t : List UInt8) (hm : text.length % 126 = 0) (ht : t.length ≤ 126) (hne : text = [] ∨ t ≠ []) : wrapF (text ++ t) = preF text ++ frameOf 0 t := by
  by_cases h0 : text.length = 0
  · have : text = [] := List.eq_nil_of_length_eq_zero h0
    subst this
    rw [preF_nil, List.nil_append, List.nil_append, wrapF_short ht]
  · have htn : t ≠ [] := hne.resolve_left (fun h => h0 (by rw [h]; rfl))
    have htp : 0 < t.length := List.length_pos_iff.2 htn
    have hge : 126 ≤ text.length := by omega
    have ih := wrapF_pre (text.drop 126) t (by simp; omega) ht (.inr htn)
    rw [wrapF_long (by simp; omega), List.take_append_of_le_length hge, List.drop_append_of_le_length hge, ih, preF.eq_1 text, dif_neg h0, List.append_assoc]
termination_by text.length
decreasing_by simp; omega
theorem preF_snoc (text t : List UInt8) (hm : text.length % 126 = 0) (ht : t.length = 126) : preF (text ++ t) = preF text ++ frameOf 1 t := by
  by_cases h0 : text.length = 0
  · have : text = [] := List.eq_nil_of_length_eq_zero h0
    subst this
    have e0 : preF [] = [] := preF_nil
    rw [e0, List.nil_append, List.nil_append, preF.eq_1 t, dif_neg (by omega), List.take_of_length_le (by omega), List.drop_eq_nil_of_le (by omega), e0, List.append_nil]
  · have hge : 126 ≤ text.length := by omega
    have ih := preF_snoc (text.drop 126) t (by simp; omega) ht
    rw [preF.eq_1 (text ++ t), dif_neg (by rw [List.length_append]; omega), List.take_append_of_le_length hge, List.drop_append_of_le_length hge, ih, preF.eq_1 text, dif_neg h0, List.append_assoc]
termination_by text.length
decreasing_by simp; omega
theorem unwF_sound (s text : List UInt8) (op : Bool) (ts : List (List UInt8)) (hs : s.length % 128 = 0) (hm : text.length % 126 = 0) (hop : op = true ∨ text = []) (h : unwF s text op = some ts) :
    (op = false ∧ text = [] → refF s [] = some ts) ∧ refF s text = some ts ∧ preF text ++ s = wrapsF ts := by
  rw [unwF] at h
  by_cases h0 : s.length = 0
  · rw [dif_pos h0] at h
    have hs0 : s = [] := List.eq_nil_of_length_eq_zero h0
    subst hs0
    cases op with
    | true => cases h
    | false =>
      have ht : text = [] := hop.resolve_left (by decide)
      subst ht
      simp only [Bool.false_eq_true, if_false, Option.some.injEq] at h
      subst h
      have e0 : preF [] = [] := preF_nil
      have e1 : refF [] [] = some [] := refF_nil
      exact ⟨fun _ => e1, e1, by rw [e0]; rfl⟩
  · rw [dif_neg h0] at h
    have h128 : 128 ≤ s.length := by omega
    have hfl : (s.take 128).length = 128 := by rw [List.length_take]; omega
    have hsp : s = s.take 128 ++ s.drop 128 := (List.take_append_drop 128 s).symm
    cases hok : frOk (s.take 128) op with
    | false => rw [hok] at h; simp at h
    | true =>
      rw [hok] at h
      simp only [if_true] at h
      obtain ⟨g1, g2, g3, g4, g5⟩ := frOk_iff.1 hok
      obtain ⟨f1, f2⟩ := frame_of hfl g1 g2 g5
      by_cases hm1 : frM (s.take 128) = 1
      · rw [if_pos hm1] at h
        have hn : frN (s.take 128) = 126 := by have : ¬ frN (s.take 128) < 126 := fun hlt => g3 ⟨hm1, hlt⟩; omega
        have ih := unwF_sound (s.drop 128) (text ++ frT (s.take 128)) true ts (by simp; omega) (by simp; omega) (.inl rfl) h
        have er : refF s text = some ts := by
          rw [refF, dif_neg h0, if_pos ⟨g2, g1⟩, if_neg (by omega)]
          exact ih.2.1
        refine ⟨fun h => by rw [← h.2]; exact er, er, ?_⟩
        have := ih.2.2
        rw [preF_snoc _ _ hm (by omega)] at this
        rw [← this]
        conv => lhs; rw [hsp, f1, hm1]
        rw [List.append_assoc]
        rfl
      · have hm0 : frM (s.take 128) = 0 := by omega
        rw [if_neg hm1] at h
        cases hu : unwF (s.drop 128) [] false with
        | none => rw [hu] at h; cases h
        | some ts' =>
          rw [hu] at h
          simp only [Option.map_some, Option.some.injEq] at h
          subst h
          have ih := unwF_sound (s.drop 128) [] false ts' (by simp; omega) (by simp) (.inr rfl) hu
          have er : refF s text = some ((text ++ frT (s.take 128)) :: ts') := by
            rw [refF, dif_neg h0, if_pos ⟨g2, g1⟩, if_pos hm0, ih.2.1]
            rfl
          refine ⟨fun h => by rw [← h.2]; exact er, er, ?_⟩
          have e0 : preF [] = [] := preF_nil
          have hw := ih.2.2
          rw [e0, List.nil_append] at hw
          have hne : text = [] ∨ frT (s.take 128) ≠ [] := by
            rcases hop with hop | hop
            · refine .inr fun hnil => g4 ⟨hop, ?_⟩
              rw [← f2, hnil]; rfl
            · exact .inl hop
          show preF text ++ s = wrapF (text ++ frT (s.take 128)) ++ wrapsF ts'
          rw [wrapF_pre _ _ hm (by omega) hne, ← hw]
          conv => lhs; rw [hsp, f1, hm0]
          rw [List.append_assoc]
          rfl
termination_by s.length
decreasing_by all_goals (simp; omega)
theorem unwF_wrap (t text r : List UInt8) (op : Bool) (hop : op = true → t ≠ []) : unwF (wrapF t ++ r) text op = (unwF r [] false).map ((text ++ t) :: ·) := by
  by_cases hl : 126 < t.length
  · have hf : (frameOf 1 (t.take 126)).length = 128 := frameOf_length 1 (by simp; omega)
    have htl : (t.take 126).length = 126 := by rw [List.length_take]; omega
    obtain ⟨p1, p2, p3, p4⟩ := frame_parts 1 (l := t.take 126) (by omega)
    have e : wrapF t ++ r = frameOf 1 (t.take 126) ++ (wrapF (t.drop 126) ++ r) := by rw [wrapF_long hl, List.append_assoc]
    have e1 : (wrapF t ++ r).take 128 = frameOf 1 (t.take 126) := by rw [e, ← hf]; exact List.take_left
    have e2 : (wrapF t ++ r).drop 128 = wrapF (t.drop 126) ++ r := by rw [e, ← hf]; exact List.drop_left
    have hd : t.drop 126 ≠ [] := fun h => by have := congrArg List.length h; simp at this; omega
    have hok : frOk (frameOf 1 (t.take 126)) op = true := frOk_iff.2 ⟨by rw [p1]; decide, by rw [p2]; omega, by rw [p2]; omega, by rw [p2]; omega, by rw [p2]; exact p4⟩
    have ih := unwF_wrap (t.drop 126) (text ++ t.take 126) r true (fun _ => hd)
    rw [unwF, dif_neg (by rw [e, List.length_append, hf]; omega), e1, e2, hok, if_pos rfl, if_pos (show frM (frameOf 1 (t.take 126)) = 1 from p1), p3, ih, List.append_assoc, List.take_append_drop]
  · have hf : (frameOf 0 t).length = 128 := frameOf_length 0 (by omega)
    obtain ⟨p1, p2, p3, p4⟩ := frame_parts 0 (l := t) (by omega)
    have e : wrapF t ++ r = frameOf 0 t ++ r := by rw [wrapF_short (by omega)]
    have e1 : (wrapF t ++ r).take 128 = frameOf 0 t := by rw [e, ← hf]; exact List.take_left
    have e2 : (wrapF t ++ r).drop 128 = r := by rw [e, ← hf]; exact List.drop_left
    have hok : frOk (frameOf 0 t) op = true := frOk_iff.2 ⟨by rw [p1]; decide, by rw [p2]; omega, by rw [p1]; rintro ⟨h1, _⟩; exact absurd h1 (by decide), by
      rw [p2]; rintro ⟨h1, h2⟩; exact hop h1 (List.eq_nil_of_length_eq_zero h2), by rw [p2]; exact p4⟩
    rw [unwF, dif_neg (by rw [e, List.length_append, hf]; omega), e1, e2, hok, if_pos rfl, if_neg (by rw [p1]; decide), p3]
termination_by t.length
decreasing_by simp; omega
theorem unwF_wraps : ∀ ts, unwF (wrapsF ts) [] false = some ts
  | [] => unwF_nil
  | t :: ts => by
    rw [show wrapsF (t :: ts) = wrapF t ++ wrapsF ts from rfl, unwF_wrap t [] _ false (fun h => by cases h), unwF_wraps ts]
    rfl
theorem unwrap_eq (s : List UInt8) : unwrapR s = unwrapF s := by
  unfold unwrapR unwrapF
  by_cases hs : s.length % 128 ≠ 0
  · rw [if_pos hs, if_pos hs]
  · rw [if_neg hs, if_neg hs]
    cases hu : unwF s [] false with
    | some ts =>
      obtain ⟨h1, h2, h3⟩ := unwF_sound s [] false ts (by omega) (by simp) (.inr rfl) hu
      have e0 : preF [] = [] := preF_nil
      rw [e0, List.nil_append] at h3
      rw [h2]
      simp only
      rw [if_pos h3.symm]
    | none =>
      cases hr : refF s [] with
      | none => rfl
      | some ts =>
        simp only
        rw [if_neg]
        intro e
        have := unwF_wraps ts
        rw [e, hu] at this
        cases this
end Go.Proofs.YtffgpjkkgndkiaaDoor
