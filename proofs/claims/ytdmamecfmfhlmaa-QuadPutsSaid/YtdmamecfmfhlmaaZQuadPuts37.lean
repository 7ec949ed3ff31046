/-
  The live cells of a tree: plain; quad.Count.
-/
import Derived.Laws.EntriesVeiled
import Derived.Test.YtdmamecfmfhlmaaZQuadPutsQParts
import Derived.Test.YtdmamecfmfhlmaaZQuadPutsQCount
import Derived.Test.YtdmamecfmfhlmaaZQuadPutsQWrap
namespace Go.Proofs.Ytdmamecfmfhlmaa
set_option maxRecDepth 100000

/-- A tree of a level. -/
def Full : Nat → Tree → Prop
  | 0, .leaf _ => True
  | n + 1, .node a b c d => Full n a ∧ Full n b ∧ Full n c ∧ Full n d
  | 0, .node _ _ _ _ => False
  | _ + 1, .leaf _ => False
theorem Den.full {L : List (Option Ent)} {t : Nat} : ∀ {n : Nat} {T : Tree} {id : Int}, Den L t n T id → Full n T
  | 0, .leaf _, _, _ => trivial
  | 0, .node _ _ _ _, _, h => h.elim
  | _ + 1, .leaf _, _, h => h.elim
  | _ + 1, .node _ _ _ _, _, h => by
    obtain ⟨_, x, _, _, _, _, a, b, c, d⟩ := h
    exact ⟨a.full, b.full, c.full, d.full⟩
theorem full_empty : ∀ n, Full n (emptyT n)
  | 0 => trivial
  | n + 1 => ⟨full_empty n, full_empty n, full_empty n, full_empty n⟩
theorem full_build : ∀ (n : Nat) (x y : Int) (l : CellL), Full n (buildT n x y l)
  | 0, _, _, _ => trivial
  | n + 1, x, y, l => by
    unfold buildT
    split
    · exact full_empty _
    · exact ⟨full_build n _ _ _, full_build n _ _ _, full_build n _ _ _, full_build n _ _ _⟩
/-- The live cells of a tree whose north-west corner is at x, y. -/
def cellsT : Nat → Tree → Int → Int → CellL
  | 0, .leaf b, x, y => if b then [(x, y)] else []
  | n + 1, .node a b c d, x, y => cellsT n a x y ++ (cellsT n b (x + 2 ^ n) y ++ (cellsT n c x (y + 2 ^ n) ++ cellsT n d (x + 2 ^ n) (y + 2 ^ n)))
  | 0, .node _ _ _ _, _, _ => []
  | _ + 1, .leaf _, _, _ => []
theorem cellsT_len : ∀ {n : Nat} {T : Tree} (x y : Int), Full n T → (cellsT n T x y).length = cnt T
  | 0, .leaf b, x, y, _ => by cases b <;> rfl
  | 0, .node _ _ _ _, _, _, h => h.elim
  | _ + 1, .leaf _, _, _, h => h.elim
  | n + 1, .node a b c d, x, y, h => by
    obtain ⟨ha, hb, hc, hd⟩ := h
    show (cellsT n a x y ++ (cellsT n b (x + 2 ^ n) y ++ (cellsT n c x (y + 2 ^ n) ++ cellsT n d (x + 2 ^ n) (y + 2 ^ n)))).length = cnt a + cnt b + cnt c + cnt d
    rw [List.length_append, List.length_append, List.length_append, cellsT_len _ _ ha, cellsT_len _ _ hb, cellsT_len _ _ hc, cellsT_len _ _ hd]
    omega
theorem cellsT_empty : ∀ (n : Nat) (x y : Int), cellsT n (emptyT n) x y = []
  | 0, _, _ => rfl
  | n + 1, x, y => by
    show cellsT n (emptyT n) x y ++ (cellsT n (emptyT n) (x + 2 ^ n) y ++ (cellsT n (emptyT n) x (y + 2 ^ n) ++ cellsT n (emptyT n) (x + 2 ^ n) (y + 2 ^ n))) = []
    simp only [cellsT_empty n]; rfl
theorem cnt_zero : ∀ {n : Nat} {T : Tree}, Full n T → (cnt T = 0 ↔ T = emptyT n)
  | 0, .leaf b, _ => by cases b <;> simp [cnt, emptyT]
  | 0, .node _ _ _ _, h => h.elim
  | _ + 1, .leaf _, h => h.elim
  | n + 1, .node a b c d, h => by
    obtain ⟨ha, hb, hc, hd⟩ := h
    have h1 := cnt_zero ha
    have h2 := cnt_zero hb
    have h3 := cnt_zero hc
    have h4 := cnt_zero hd
    show cnt a + cnt b + cnt c + cnt d = 0 ↔ Tree.node a b c d = .node (emptyT n) (emptyT n) (emptyT n) (emptyT n)
    rw [Tree.node.injEq, ← h1, ← h2, ← h3, ← h4]
    omega
/-- All cells of a tree lie in its square. -/
theorem cellsT_in : ∀ {n : Nat} {T : Tree} {x y : Int} {z : Int × Int}, z ∈ cellsT n T x y → x ≤ z.1 ∧ z.1 < x + 2 ^ n ∧ y ≤ z.2 ∧ z.2 < y + 2 ^ n
  | 0, .leaf b, x, y, z, h => by
    cases b with
    | false => cases h
    | true =>
      have h : z ∈ [(x, y)] := h
      rw [List.mem_singleton] at h
      subst h
      exact ⟨Int.le_refl _, by show x < x + 1; omega, Int.le_refl _, by show y < y + 1; omega⟩
  | 0, .node _ _ _ _, _, _, _, h => by cases h
  | _ + 1, .leaf _, _, _, _, h => by cases h
  | n + 1, .node a b c d, x, y, z, h => by
    have h : z ∈ cellsT n a x y ++ (cellsT n b (x + 2 ^ n) y ++ (cellsT n c x (y + 2 ^ n) ++ cellsT n d (x + 2 ^ n) (y + 2 ^ n))) := h
    rw [List.mem_append, List.mem_append, List.mem_append] at h
    have hp : (0 : Int) < 2 ^ n := Int.pow_pos (by omega)
    have e : (2 : Int) ^ (n + 1) = 2 ^ n + 2 ^ n := by rw [Int.pow_succ]; omega
    rw [e]
    rcases h with h | h | h | h
    · have := cellsT_in h; omega
    · have := cellsT_in h; omega
    · have := cellsT_in h; omega
    · have := cellsT_in h; omega
/-- What was built has just the cells of the list. -/
theorem mem_build : ∀ {n : Nat} {x y : Int} {l : CellL} {z : Int × Int}, (∀ c ∈ l, x ≤ c.1 ∧ c.1 < x + 2 ^ n ∧ y ≤ c.2 ∧ c.2 < y + 2 ^ n) → (z ∈ cellsT n (buildT n x y l) x y ↔ z ∈ l)
  | 0, x, y, l, z, h => by
    have h' : ∀ c ∈ l, c = (x, y) := fun c hc => by
      obtain ⟨h1, h2, h3, h4⟩ := h c hc
      have e : (2 : Int) ^ 0 = 1 := rfl
      rw [e] at h2 h4
      exact Prod.ext (by show c.1 = x; omega) (by show c.2 = y; omega)
    cases l with
    | nil => exact Iff.rfl
    | cons c l =>
      show z ∈ [(x, y)] ↔ _
      rw [List.mem_singleton]
      constructor
      · rintro rfl
        rw [← h' c (List.mem_cons_self ..)]
        exact List.mem_cons_self ..
      · exact h' z
  | n + 1, x, y, l, z, h => by
    have e : (2 : Int) ^ (n + 1) = 2 ^ n + 2 ^ n := by rw [Int.pow_succ]; omega
    rw [e] at h
    unfold buildT
    split
    · next hl =>
      rw [cellsT_empty]
      have : l = [] := List.isEmpty_iff.1 hl
      rw [this]
    · have q : ∀ k (c : Int × Int), c ∈ partOf (x + 2 ^ n) (y + 2 ^ n) k l ↔ c ∈ l ∧ quadOf (x + 2 ^ n) (y + 2 ^ n) c = k := fun k c => by
        unfold partOf
        rw [List.mem_filter, decide_eq_true_eq]
      have i0 := fun c (hc : c ∈ partOf (x + 2 ^ n) (y + 2 ^ n) 0 l) => (by
        obtain ⟨h1, h2⟩ := (q 0 c).1 hc
        have := h c h1
        unfold quadOf at h2
        split at h2 <;> split at h2 <;> omega : x ≤ c.1 ∧ c.1 < x + 2 ^ n ∧ y ≤ c.2 ∧ c.2 < y + 2 ^ n)
      have i1 := fun c (hc : c ∈ partOf (x + 2 ^ n) (y + 2 ^ n) 1 l) => (by
        obtain ⟨h1, h2⟩ := (q 1 c).1 hc
        have := h c h1
        unfold quadOf at h2
        split at h2 <;> split at h2 <;> omega : x + 2 ^ n ≤ c.1 ∧ c.1 < x + 2 ^ n + 2 ^ n ∧ y ≤ c.2 ∧ c.2 < y + 2 ^ n)
      have i2 := fun c (hc : c ∈ partOf (x + 2 ^ n) (y + 2 ^ n) 2 l) => (by
        obtain ⟨h1, h2⟩ := (q 2 c).1 hc
        have := h c h1
        unfold quadOf at h2
        split at h2 <;> split at h2 <;> omega : x ≤ c.1 ∧ c.1 < x + 2 ^ n ∧ y + 2 ^ n ≤ c.2 ∧ c.2 < y + 2 ^ n + 2 ^ n)
      have i3 := fun c (hc : c ∈ partOf (x + 2 ^ n) (y + 2 ^ n) 3 l) => (by
        obtain ⟨h1, h2⟩ := (q 3 c).1 hc
        have := h c h1
        unfold quadOf at h2
        split at h2 <;> split at h2 <;> omega : x + 2 ^ n ≤ c.1 ∧ c.1 < x + 2 ^ n + 2 ^ n ∧ y + 2 ^ n ≤ c.2 ∧ c.2 < y + 2 ^ n + 2 ^ n)
      show z ∈ _ ++ (_ ++ (_ ++ _)) ↔ _
      rw [List.mem_append, List.mem_append, List.mem_append, mem_build i0, mem_build i1, mem_build i2, mem_build i3, q, q, q, q]
      have h4 := quadOf_lt (x + 2 ^ n) (y + 2 ^ n) z
      constructor
      · rintro (h | h | h | h) <;> exact h.1
      · intro hz
        rcases (show quadOf (x + 2 ^ n) (y + 2 ^ n) z = 0 ∨ quadOf (x + 2 ^ n) (y + 2 ^ n) z = 1 ∨ quadOf (x + 2 ^ n) (y + 2 ^ n) z = 2 ∨ quadOf (x + 2 ^ n) (y + 2 ^ n) z = 3 by omega) with e | e | e | e
        · exact .inl ⟨hz, e⟩
        · exact .inr (.inl ⟨hz, e⟩)
        · exact .inr (.inr (.inl ⟨hz, e⟩))
        · exact .inr (.inr (.inr ⟨hz, e⟩))
/-- A tree in the middle of a greater one has the same cells. -/
theorem cellsT_wrap {n : Nat} {a b c d : Tree} {x y : Int} : cellsT (n + 2) (wrapT n a b c d) x y = cellsT (n + 1) (.node a b c d) (x + 2 ^ n) (y + 2 ^ n) := by
  have e : (2 : Int) ^ (n + 1) = 2 ^ n + 2 ^ n := by rw [Int.pow_succ]; omega
  unfold wrapT
  simp only [cellsT, cellsT_empty, List.nil_append, List.append_nil]
  rw [e]
  have e1 : x + (2 ^ n + 2 ^ n) = x + 2 ^ n + 2 ^ n := by omega
  have e2 : y + (2 ^ n + 2 ^ n) = y + 2 ^ n + 2 ^ n := by omega
  rw [e1, e2]
end Go.Proofs.Ytdmamecfmfhlmaa
namespace Go.Proofs.Ytdmamecfmfhlmaa
set_option maxRecDepth 100000
open Go.RowKit

theorem Den.levelA {S : ArS} (ok : ArOk S) {t n : Nat} {T : Tree} {id : Int} (h : Den S.L t n T id) (ht : t < 64) : levelA S (t : Int) id = ((n : Int), 0) := by
  rw [levelA_yes ht h.owns, h.lev ok]
theorem make_intmap (W : World) : (Instr.makeMap 94 none).run Try.prog W = .ok (.map (some W.heap.size)) (W.alloc (.map #[] 0)) := rfl
/-- A walker of one's own. -/
theorem walk_any (b t : Nat) (w : World) : Calls Try.prog 38 #[.pointer (some ⟨b, 0, none⟩), .int .i64 t] w fun e w' => e = .returned (.pointer (some ⟨w.heap.size + 1, 0, none⟩)) ∧ Below w.heap.size w w' ∧ w'.heap[w.heap.size]? = some (.map #[] 0) ∧ w'.heap.size = w.heap.size + 2 ∧ HandAt (w.heap.size + 1) b t 0 96 (some (.map (some w.heap.size))) w' := by
  have hmk := make_intmap
  go_enter Try.func38, Try.ntmps38
  go_wp2_with fail
  go_ret
  refine ⟨by simp, ((Below.refl _ _).alloc (Nat.le_refl _) _).alloc (by simp) _, ?_, by simp, ?_⟩
  · rw [Below.heap_alloc _ _ _ (by simp)]; exact blk_last w _ rfl
  · refine ⟨#[.pointer (some ⟨b, 0, none⟩), .int .i64 t, .int .i64 0, .map (some w.heap.size)], ?_, rfl, rfl, rfl, rfl⟩
    have h := blk_last (w.alloc (.map #[] 0)) (.cells #[.pointer (some ⟨b, 0, none⟩), .int .i64 t, .int .i64 0, .map (some w.heap.size)] 96 (0, 0)) rfl
    simpa using h
set_option maxHeartbeats 4000000 in
set_option maxRecDepth 100000 in
theorem qcount_any (b t : Nat) (S : ArS) (F : Nat → Prop) (n : Nat) (T : Tree) (id : Int) (w : World) (h : IsAr b S w F) (ht : t < 64) (hd : Den S.L t n T id) (hc : cnt T ≤ bigC) :
    Calls Try.prog 13 #[.pointer (some ⟨b, 0, none⟩), .int .i64 t, .int .i64 id] w fun e w' => e = .returned (.tuple #[.int .i64 (cnt T), .int .i64 0]) ∧ Below w.heap.size w w' := by
  have HW := Lib.hid (walk_any b t w)
  have HI := Lib.hid h
  have HD := Lib.hid hd
  have HC := Lib.hid hc
  have HFL := Lib.hid h.lt
  have hmk := make_intmap
  obtain ⟨cn, hcn⟩ : ∃ cn : Nat, cn = cnt T := ⟨_, rfl⟩
  have HCB := Lib.hid (show (cn : Int) ≤ 1000000000000 by unfold bigC at hc; omega)
  have HCNE := Lib.hid hcn
  rw [← hcn]
  clear h hd hc hcn
  go_enter Try.func13, Try.ntmps13
  go_wp2_with fail
  with_reducible refine HW.out.mono ?_
  rintro e w1 ⟨rfl, hb1, hm1, hz1, hh1⟩
  obtain ⟨W2, hW2⟩ : ∃ W, W = w1.alloc (.cells #[.pointer (some ⟨w.heap.size + 1, 0, none⟩)] 92 (0, 0)) := ⟨_, rfl⟩
  have hz2 : W2.heap.size = w.heap.size + 3 := by rw [hW2]; simp [hz1]
  have hb2 : Below w1.heap.size w1 W2 := by rw [hW2]; exact (Below.refl _ _).alloc (Nat.le_refl _) _
  have h82 : W2.heap[w1.heap.size]? = some (.cells #[.pointer (some ⟨w.heap.size + 1, 0, none⟩)] 92 (0, 0)) := by rw [hW2]; exact blk_last w1 _ rfl
  obtain ⟨W3, hW3⟩ : ∃ W, W = W2.alloc (.map #[] 0) := ⟨_, rfl⟩
  have hm3 : MapOf intV I64 W3 W2.heap.size 0 (fun _ => none) := by rw [hW3]; exact MapOf.new intV I64 W2 0
  have hb3 : Below W2.heap.size W2 W3 := by rw [hW3]; exact (Below.refl _ _).alloc (Nat.le_refl _) _
  have hz3 : W3.heap.size = w.heap.size + 4 := by rw [hW3]; simp [hz2]
  obtain ⟨_, _, _, _, _, _, hen⟩ := MapOf.entry int_keyedV (t := 94) (e := 3) (z := .int .i64 0) Try.underlying94 (fun u => by kernel_rfl) hm3 (a := 0) (by unfold I64; omega)
  obtain ⟨W4, _, hu4, hm4, hk4, hz4⟩ := hen (.int .i64 0)
  obtain ⟨_, _, _, _, _, _, hen⟩ := MapOf.entry int_keyedV (t := 94) (e := 3) (z := .int .i64 0) Try.underlying94 (fun u => by kernel_rfl) hm4 (a := 1) (by unfold I64; omega)
  obtain ⟨W5, _, hu5, hm5, hk5, hz5⟩ := hen (.int .i64 1)
  unfold intV at hu4 hu5
  have hk35 : Keeps (fun i => i = W2.heap.size) W3 W5 := hk4.trans hk5 (fun _ _ h => h)
  obtain ⟨W6, hW6⟩ : ∃ W, W = W5.alloc (.cells #[.map (some W2.heap.size)] 94 (0, 0)) := ⟨_, rfl⟩
  have hb6 : Below W5.heap.size W5 W6 := by rw [hW6]; exact (Below.refl _ _).alloc (Nat.le_refl _) _
  have h96 : W6.heap[W5.heap.size]? = some (.cells #[.map (some W2.heap.size)] 94 (0, 0)) := by rw [hW6]; exact blk_last W5 _ rfl
  have hz5' : W5.heap.size = w.heap.size + 4 := by have h1 := hz4; have h2 := hz5; omega
  have hb26 : Below W2.heap.size W2 W6 := by
    refine ⟨hb6.os.trans (hk35.os.trans hb3.os), hb6.tape.trans (hk35.tape.trans hb3.tape), hb6.output.trans (hk35.output.trans hb3.output), Nat.le_trans hb3.size (Nat.le_trans hk35.size hb6.size), fun k hk => ?_⟩
    rw [hb6.block k (by omega), hk35.block k (by omega) (by omega), hb3.block k hk]
  have hb16 : Below w1.heap.size w1 W6 := hb2.trans (hb26.mono (by omega))
  have hb06 : Below w.heap.size w W6 := hb1.trans (hb16.mono (by omega))
  have hh6 : HandAt (w.heap.size + 1) b t 0 96 (some (.map (some w.heap.size))) W6 := hh1.keep (hb16.block _ (by omega))
  have h86 : W6.heap[w1.heap.size]? = some (.cells #[.pointer (some ⟨w.heap.size + 1, 0, none⟩)] 92 (0, 0)) := (hb26.block _ (by omega)).trans h82
  have hm6 := hm5.keep (hb6.block _ (by omega))
  have HW2 := Lib.hid hW2
  have HW3 := Lib.hid hW3
  have HW6 := Lib.hid hW6
  have HM6 := Lib.hid hm6
  have HH6 := Lib.hid hh6
  have HB6 := Lib.hid hb06
  have HI6 := Lib.hid (HI.out.below hb06)
  have H86 := Lib.hid h86
  have H96 := Lib.hid h96
  have HZ6 := Lib.hid (show W6.heap.size = w.heap.size + 5 by rw [hW6]; simp [hz5'])
  have hu4' := hu4
  rw [hW3] at hu4'
  have e8 := Joins.cell_of_block h86 0
  have e9 := Joins.cell_of_block h96 0
  simp at e8 e9
  have HLV := Lib.hid (hlevel_any (w.heap.size + 1) b t 0 96 (some (.map (some w.heap.size))) S F id W6 HI6.out hh6 (fun e => by have := HFL.out _ e; omega))
  rw [if_pos rfl, if_pos rfl, HD.out.levelA HI.out.ok ht] at HLV
  have HZ1 := Lib.hid hz1
  have HZ2 := Lib.hid hz2
  have HZ5 := Lib.hid hz5'
  clear hb1 hm1 hh1 hz2 hb2 h82 hm3 hb3 hz3 hen hm4 hk4 hz4 hm5 hk5 hz5 hk35 hb6 h96 hz5' hb26 hb16 hb06 hh6 h86 hm6 hW6 hW3 hu4 hz1
  go_upto_region 2 with fail
  rw [← hW2]
  clear hW2
  go_upto_region 3 with fail
  rw [← HW6.out]
  go_wp2_with fail
  with_reducible refine HLV.out.mono ?_
  rintro e w7 ⟨rfl, hh7, hk7⟩
  have hz6 := HZ6.out
  have hz1 := HZ1.out
  have hz2 := HZ2.out
  have hz5 := HZ5.out
  have h87 := (hk7.block _ (lt_of_block H86.out) (by omega)).trans H86.out
  have h97 := (hk7.block _ (lt_of_block H96.out) (by omega)).trans H96.out
  have hm7 := HM6.out.keep (hk7.block _ HM6.out.lt (by omega))
  have hi7 := HI6.out.keep hk7 (fun i hi e => by have := HFL.out i hi; omega)
  obtain ⟨fn, hfn⟩ : ∃ fn : Value, fn = .func (.func 40) #[] #[.pointer (some ⟨W5.heap.size, 0, none⟩), .pointer (some ⟨w1.heap.size, 0, none⟩), .pointer (some ⟨w7.heap.size, 0, none⟩)] := ⟨_, rfl⟩
  obtain ⟨W8, hW8⟩ : ∃ W, W = w7.alloc (.cells #[.func (.func 40) #[] #[.pointer (some ⟨W5.heap.size, 0, none⟩), .pointer (some ⟨w1.heap.size, 0, none⟩), .pointer (some ⟨w7.heap.size, 0, none⟩)]] 79 (0, 0)) := ⟨_, rfl⟩
  have hb8 : Below w7.heap.size w7 W8 := by rw [hW8]; exact (Below.refl _ _).alloc (Nat.le_refl _) _
  have h108 : W8.heap[w7.heap.size]? = some (.cells #[fn] 79 (0, 0)) := by rw [hW8, hfn]; exact blk_last w7 _ rfl
  have hz7 := hk7.size
  have hcst : CSt b t S F (w.heap.size + 1) W2.heap.size (some (.map (some w.heap.size))) w1.heap.size W5.heap.size w7.heap.size fn (0 + 1 + 1) (updM (updM (fun _ => none) 0 (.int .i64 0)) 1 (.int .i64 1)) W8 :=
    { ar := hi7.below hb8
      hand := hh7.keep (hb8.block _ hh7.lt)
      map := hm7.keep (hb8.block _ hm7.lt)
      memo := ⟨fun i v hv => by
        unfold updM at hv
        by_cases e1 : i = 1
        · rw [if_pos e1] at hv
          cases hv
          exact ⟨0, .leaf true, by rw [e1]; rfl, rfl, by decide⟩
        · rw [if_neg e1] at hv
          by_cases e0 : i = 0
          · rw [if_pos e0] at hv
            cases hv
            exact ⟨0, .leaf false, by rw [e0]; rfl, rfl, by decide⟩
          · rw [if_neg e0] at hv; exact absurd hv (by simp), rfl, rfl⟩
      m9 := (World.cell?_of_block (hb8.block _ (lt_of_block h97))).trans (Joins.cell_of_block h97 0)
      m8 := (World.cell?_of_block (hb8.block _ (lt_of_block h87))).trans (Joins.cell_of_block h87 0)
      m10 := Joins.cell_of_block h108 0
      d1 := ⟨fun e => by have := HFL.out _ e; omega, fun e => by have := HFL.out _ e; omega⟩
      d8 := ⟨by omega, by omega⟩
      d9 := ⟨by omega, by omega⟩
      d10 := ⟨by omega, by omega⟩
      dm := by omega }
  have HCN := Lib.hid (count_any n b t S F _ _ _ _ _ _ fn _ _ T id W8 hfn hcst ht HD.out HC.out)
  have g8 := Joins.cell_of_block h87 0
  have g9 := Joins.cell_of_block h97 0
  have g10 := Joins.cell_of_block h108 0
  simp at g8 g9 g10
  rw [hfn] at g10
  have g2 := hh7.c2
  have k8 := hcst.m8
  have HB8 := Lib.hid (show Below w.heap.size w W8 from HB6.out.trans (((hk7.toBelow (B := w.heap.size) (fun i e => by omega) HB6.out.size)).trans (hb8.mono (by omega))))
  have HW8 := Lib.hid hW8
  rw [← HCNE.out] at HCN
  have hcb := HCB.out
  have tm : decide ((cn : Int) ≥ 4611686018427387904) = false := decide_eq_false (by omega)
  have tm2 : decide ((4611686018427387904 : Int) ≤ (cn : Int)) = false := decide_eq_false (by omega)
  have tm3 : decide (4611686018427387904 ≤ cn) = false := decide_eq_false (by omega)
  clear hh7 hk7 h87 h97 hm7 hi7 hW8 hb8 h108 hz7 hcst hz6 hz1 hz2 hz5 e8 e9
  go_upto_region 8 with fail
  rw [← HW8.out]
  go_wp2_with fail
  with_reducible refine HCN.out.mono ?_
  rintro e w9 ⟨rfl, nn', f', hst, hk9⟩
  have j8 := hst.m8
  have j2 := hst.hand.c2
  have HB9 := Lib.hid (HB8.out.trans (hk9.toBelow (B := w.heap.size) (fun i e => by have := HZ2.out; omega) HB8.out.size))
  clear hst hk9 g8 g9 g10 g2 k8
  go_wp2_with fail
  go_ret2
  exact ⟨rfl, HB9.out⟩
end Go.Proofs.Ytdmamecfmfhlmaa
