/-
  The live cells of a tree: plain; The law's few: forty cells at most, near 0; quad.Count.
-/
import Derived.Laws.EntriesVeiled
import Derived.Test.YtabhpbkkjijfjaaZLeapSteps24
import Derived.Test.YtabhpbkkjijfjaaZLeapSteps26
import Derived.Test.YtabhpbkkjijfjaaZLeapStepsQWrap
import Derived.Test.YtabhpbkkjijfjaaZLeapSteps9
import Derived.Test.YtabhpbkkjijfjaaZLeapSteps2
namespace Go.Proofs.Ytabhpbkkjijfjaa
set_option maxRecDepth 100000

/-- A tree of a level. -/
def Full : Nat → Tree → Prop
  | 0, .leaf _ => True
  | n + 1, .node a b c d => Full n a ∧ Full n b ∧ Full n c ∧ Full n d
  | 0, .node _ _ _ _ => False
  | _ + 1, .leaf _ => False
theorem Den.full {L : List (Option Ent)} {t : Nat} : ∀ {n : Nat} {T : Tree} {id : Int}, Den L t n T id → Full n T
  | 0, .leaf _, _, _ => trivial
  | 0, .node _ _ _ _, _, h => h.elim
  | _ + 1, .leaf _, _, h => h.elim
  | _ + 1, .node _ _ _ _, _, h => by
    obtain ⟨_, x, _, _, _, _, a, b, c, d⟩ := h
    exact ⟨a.full, b.full, c.full, d.full⟩
theorem full_empty : ∀ n, Full n (emptyT n)
  | 0 => trivial
  | n + 1 => ⟨full_empty n, full_empty n, full_empty n, full_empty n⟩
theorem full_build : ∀ (n : Nat) (x y : Int) (l : CellL), Full n (buildT n x y l)
  | 0, _, _, _ => trivial
  | n + 1, x, y, l => by
    unfold buildT
    split
    · exact full_empty _
    · exact ⟨full_build n _ _ _, full_build n _ _ _, full_build n _ _ _, full_build n _ _ _⟩
/-- The live cells of a tree whose north-west corner is at x, y. -/
def cellsT : Nat → Tree → Int → Int → CellL
  | 0, .leaf b, x, y => if b then [(x, y)] else []
  | n + 1, .node a b c d, x, y => cellsT n a x y ++ (cellsT n b (x + 2 ^ n) y ++ (cellsT n c x (y + 2 ^ n) ++ cellsT n d (x + 2 ^ n) (y + 2 ^ n)))
  | 0, .node _ _ _ _, _, _ => []
  | _ + 1, .leaf _, _, _ => []
theorem cellsT_len : ∀ {n : Nat} {T : Tree} (x y : Int), Full n T → (cellsT n T x y).length = cnt T
  | 0, .leaf b, x, y, _ => by cases b <;> rfl
  | 0, .node _ _ _ _, _, _, h => h.elim
  | _ + 1, .leaf _, _, _, h => h.elim
  | n + 1, .node a b c d, x, y, h => by
    obtain ⟨ha, hb, hc, hd⟩ := h
    show (cellsT n a x y ++ (cellsT n b (x + 2 ^ n) y ++ (cellsT n c x (y + 2 ^ n) ++ cellsT n d (x + 2 ^ n) (y + 2 ^ n)))).length = cnt a + cnt b + cnt c + cnt d
    rw [List.length_append, List.length_append, List.length_append, cellsT_len _ _ ha, cellsT_len _ _ hb, cellsT_len _ _ hc, cellsT_len _ _ hd]
    omega
theorem cellsT_empty : ∀ (n : Nat) (x y : Int), cellsT n (emptyT n) x y = []
  | 0, _, _ => rfl
  | n + 1, x, y => by
    show cellsT n (emptyT n) x y ++ (cellsT n (emptyT n) (x + 2 ^ n) y ++ (cellsT n (emptyT n) x (y + 2 ^ n) ++ cellsT n (emptyT n) (x + 2 ^ n) (y + 2 ^ n))) = []
    simp only [cellsT_empty n]; rfl
theorem cnt_zero : ∀ {n : Nat} {T : Tree}, Full n T → (cnt T = 0 ↔ T = emptyT n)
  | 0, .leaf b, _ => by cases b <;> simp [cnt, emptyT]
  | 0, .node _ _ _ _, h => h.elim
  | _ + 1, .leaf _, h => h.elim
  | n + 1, .node a b c d, h => by
    obtain ⟨ha, hb, hc, hd⟩ := h
    have h1 := cnt_zero ha
    have h2 := cnt_zero hb
    have h3 := cnt_zero hc
    have h4 := cnt_zero hd
    show cnt a + cnt b + cnt c + cnt d = 0 ↔ Tree.node a b c d = .node (emptyT n) (emptyT n) (emptyT n) (emptyT n)
    rw [Tree.node.injEq, ← h1, ← h2, ← h3, ← h4]
    omega
/-- All cells of a tree lie in its square. -/
theorem cellsT_in : ∀ {n : Nat} {T : Tree} {x y : Int} {z : Int × Int}, z ∈ cellsT n T x y → x ≤ z.1 ∧ z.1 < x + 2 ^ n ∧ y ≤ z.2 ∧ z.2 < y + 2 ^ n
  | 0, .leaf b, x, y, z, h => by
    cases b with
    | false => cases h
    | true =>
      have h : z ∈ [(x, y)] := h
      rw [List.mem_singleton] at h
      subst h
      exact ⟨Int.le_refl _, by show x < x + 1; omega, Int.le_refl _, by show y < y + 1; omega⟩
  | 0, .node _ _ _ _, _, _, _, h => by cases h
  | _ + 1, .leaf _, _, _, _, h => by cases h
  | n + 1, .node a b c d, x, y, z, h => by
    have h : z ∈ cellsT n a x y ++ (cellsT n b (x + 2 ^ n) y ++ (cellsT n c x (y + 2 ^ n) ++ cellsT n d (x + 2 ^ n) (y + 2 ^ n))) := h
    rw [List.mem_append, List.mem_append, List.mem_append] at h
    have hp : (0 : Int) < 2 ^ n := Int.pow_pos (by omega)
    have e : (2 : Int) ^ (n + 1) = 2 ^ n + 2 ^ n := by rw [Int.pow_succ]; omega
    rw [e]
    rcases h with h | h | h | h
    · have := cellsT_in h; omega
    · have := cellsT_in h; omega
    · have := cellsT_in h; omega
    · have := cellsT_in h; omega
/-- What was built has just the cells of the list. -/
theorem mem_build : ∀ {n : Nat} {x y : Int} {l : CellL} {z : Int × Int}, (∀ c ∈ l, x ≤ c.1 ∧ c.1 < x + 2 ^ n ∧ y ≤ c.2 ∧ c.2 < y + 2 ^ n) → (z ∈ cellsT n (buildT n x y l) x y ↔ z ∈ l)
  | 0, x, y, l, z, h => by
    have h' : ∀ c ∈ l, c = (x, y) := fun c hc => by
      obtain ⟨h1, h2, h3, h4⟩ := h c hc
      have e : (2 : Int) ^ 0 = 1 := rfl
      rw [e] at h2 h4
      exact Prod.ext (by show c.1 = x; omega) (by show c.2 = y; omega)
    cases l with
    | nil => exact Iff.rfl
    | cons c l =>
      show z ∈ [(x, y)] ↔ _
      rw [List.mem_singleton]
      constructor
      · rintro rfl
        rw [← h' c (List.mem_cons_self ..)]
        exact List.mem_cons_self ..
      · exact h' z
  | n + 1, x, y, l, z, h => by
    have e : (2 : Int) ^ (n + 1) = 2 ^ n + 2 ^ n := by rw [Int.pow_succ]; omega
    rw [e] at h
    unfold buildT
    split
    · next hl =>
      rw [cellsT_empty]
      have : l = [] := List.isEmpty_iff.1 hl
      rw [this]
    · have q : ∀ k (c : Int × Int), c ∈ partOf (x + 2 ^ n) (y + 2 ^ n) k l ↔ c ∈ l ∧ quadOf (x + 2 ^ n) (y + 2 ^ n) c = k := fun k c => by
        unfold partOf
        rw [List.mem_filter, decide_eq_true_eq]
      have i0 := fun c (hc : c ∈ partOf (x + 2 ^ n) (y + 2 ^ n) 0 l) => (by
        obtain ⟨h1, h2⟩ := (q 0 c).1 hc
        have := h c h1
        unfold quadOf at h2
        split at h2 <;> split at h2 <;> omega : x ≤ c.1 ∧ c.1 < x + 2 ^ n ∧ y ≤ c.2 ∧ c.2 < y + 2 ^ n)
      have i1 := fun c (hc : c ∈ partOf (x + 2 ^ n) (y + 2 ^ n) 1 l) => (by
        obtain ⟨h1, h2⟩ := (q 1 c).1 hc
        have := h c h1
        unfold quadOf at h2
        split at h2 <;> split at h2 <;> omega : x + 2 ^ n ≤ c.1 ∧ c.1 < x + 2 ^ n + 2 ^ n ∧ y ≤ c.2 ∧ c.2 < y + 2 ^ n)
      have i2 := fun c (hc : c ∈ partOf (x + 2 ^ n) (y + 2 ^ n) 2 l) => (by
        obtain ⟨h1, h2⟩ := (q 2 c).1 hc
        have := h c h1
        unfold quadOf at h2
        split at h2 <;> split at h2 <;> omega : x ≤ c.1 ∧ c.1 < x + 2 ^ n ∧ y + 2 ^ n ≤ c.2 ∧ c.2 < y + 2 ^ n + 2 ^ n)
      have i3 := fun c (hc : c ∈ partOf (x + 2 ^ n) (y + 2 ^ n) 3 l) => (by
        obtain ⟨h1, h2⟩ := (q 3 c).1 hc
        have := h c h1
        unfold quadOf at h2
        split at h2 <;> split at h2 <;> omega : x + 2 ^ n ≤ c.1 ∧ c.1 < x + 2 ^ n + 2 ^ n ∧ y + 2 ^ n ≤ c.2 ∧ c.2 < y + 2 ^ n + 2 ^ n)
      show z ∈ _ ++ (_ ++ (_ ++ _)) ↔ _
      rw [List.mem_append, List.mem_append, List.mem_append, mem_build i0, mem_build i1, mem_build i2, mem_build i3, q, q, q, q]
      have h4 := quadOf_lt (x + 2 ^ n) (y + 2 ^ n) z
      constructor
      · rintro (h | h | h | h) <;> exact h.1
      · intro hz
        rcases (show quadOf (x + 2 ^ n) (y + 2 ^ n) z = 0 ∨ quadOf (x + 2 ^ n) (y + 2 ^ n) z = 1 ∨ quadOf (x + 2 ^ n) (y + 2 ^ n) z = 2 ∨ quadOf (x + 2 ^ n) (y + 2 ^ n) z = 3 by omega) with e | e | e | e
        · exact .inl ⟨hz, e⟩
        · exact .inr (.inl ⟨hz, e⟩)
        · exact .inr (.inr (.inl ⟨hz, e⟩))
        · exact .inr (.inr (.inr ⟨hz, e⟩))
/-- A tree in the middle of a greater one has the same cells. -/
theorem cellsT_wrap {n : Nat} {a b c d : Tree} {x y : Int} : cellsT (n + 2) (wrapT n a b c d) x y = cellsT (n + 1) (.node a b c d) (x + 2 ^ n) (y + 2 ^ n) := by
  have e : (2 : Int) ^ (n + 1) = 2 ^ n + 2 ^ n := by rw [Int.pow_succ]; omega
  unfold wrapT
  simp only [cellsT, cellsT_empty, List.nil_append, List.append_nil]
  rw [e]
  have e1 : x + (2 ^ n + 2 ^ n) = x + 2 ^ n + 2 ^ n := by omega
  have e2 : y + (2 ^ n + 2 ^ n) = y + 2 ^ n + 2 ^ n := by omega
  rw [e1, e2]
end Go.Proofs.Ytabhpbkkjijfjaa
namespace Go.Proofs.Ytabhpbkkjijfjaa
set_option maxRecDepth 100000
open Go.RowKit

def fewC (c : Int × Int) : Int × Int := (c.1.tmod 20, c.2.tmod 20)
def fewF (zs : CellL) : CellL := (zs.take 40).map fewC
theorem tmod20 (x : Int) : -20 < x.tmod 20 ∧ x.tmod 20 < 20 := ⟨Int.lt_tmod_of_pos x (by omega), Int.tmod_lt_of_pos x (by omega)⟩
theorem fewF_len (zs : CellL) : (fewF zs).length ≤ 40 := by
  unfold fewF; rw [List.length_map, List.length_take]; omega
theorem fewF_near {zs : CellL} {c : Int × Int} (h : c ∈ fewF zs) : -20 < c.1 ∧ c.1 < 20 ∧ -20 < c.2 ∧ c.2 < 20 := by
  obtain ⟨d, _, rfl⟩ := List.mem_map.1 h
  have h1 := tmod20 d.1
  have h2 := tmod20 d.2
  exact ⟨h1.1, h1.2, h2.1, h2.2⟩
set_option maxHeartbeats 2000000 in
set_option maxRecDepth 100000 in
theorem few_any (zs : CellL) (a : Option Addr) (cap : Nat) (w : World) (hs : Sl w 2 16 a zs.length cap (zs.flatMap encCell)) :
    Calls Try.prog 4 #[.slice a zs.length cap] w fun e w' => ∃ v, e = .returned v ∧ Below w.heap.size w w' ∧ w'.ownsRow w.heap.size 39 2 v (fewF zs).length ((fewF zs).flatMap encCell) := by
  obtain ⟨i0, hi, hzz, hzs, hzb⟩ := info_parts infoCell
  obtain ⟨n, hn⟩ : ∃ n, n = zs.length := ⟨_, rfl⟩
  have hw := hs.wide
  have HS := Lib.hid hs
  have HN := Lib.hid hn
  rw [← hn] at hw ⊢
  clear hs hn
  go_enter Try.func4, Try.ntmps4
  go_upto_region 3 with fail
  go_loopw [3, 4] (fun o i wr => ∃ j : Nat, i = .int .i64 j ∧ j ≤ n ∧ j ≤ 40 ∧ Below w.heap.size w wr ∧ wr.ownsRow w.heap.size 39 2 o j (((zs.take j).map fewC).flatMap encCell)) (fun _ i _ => 40 - (intOf i).toNat)
  case atStart => exact ⟨0, rfl, Nat.zero_le _, by omega, Below.refl _ _, World.ownsRow_nil _ _ _ _⟩
  case round =>
    obtain ⟨j, rfl, hj, hj40, hB, hO⟩ := hrel
    by_cases hlt : j < n ∧ j < 40
    · obtain ⟨hjn, hjf⟩ := hlt
      obtain ⟨c, hc⟩ : ∃ c, zs[j]? = some c := ⟨zs[j]'(by have := HN.out; omega), by simp⟩
      obtain ⟨b, o, rfl, hrow⟩ := HS.out.row (by have := HN.out; omega)
      have hb := HS.out.lt (by have := HN.out; omega) (by omega)
      have e0 := hrow _ _ (flat_nth hc).1
      have e1 : w.cell? ⟨b, o + j * 2 + 1, none⟩ = some (.int .i64 c.2) := by have := hrow _ _ (flat_nth hc).2; rw [← Nat.add_assoc] at this; exact this
      obtain ⟨va, vc, rfl⟩ := own_form hO
      have HC := Lib.hid hc
      have HO := Lib.hid hO
      have hbs := hB.size
      obtain ⟨x, y⟩ := c
      dsimp only at e0 e1
      have k0 : wr.cell? ⟨b, o + j * 2, none⟩ = some (.int .i64 x) := (hB.cell (p := ⟨b, o + j * 2, none⟩) hb).trans e0
      have k1 : wr.cell? ⟨b, o + j * 2 + 1, none⟩ = some (.int .i64 y) := (hB.cell (p := ⟨b, o + j * 2 + 1, none⟩) hb).trans e1
      have i1 : (0 : Int) ≤ (j : Int) := by omega
      have i2 : (j : Int) < (n : Int) := by omega
      have t1 : decide ((j : Int) < (n : Int)) = true := decide_eq_true i2
      have t2 : decide ((j : Int) < 40) = true := decide_eq_true (by omega)
      have t3 : decide (j < n) = true := decide_eq_true hjn
      have t4 : decide (j < 40) = true := decide_eq_true hjf
      obtain ⟨px, hpx⟩ : ∃ p, p = x.tmod 20 := ⟨_, rfl⟩
      obtain ⟨py, hpy⟩ : ∃ p, p = y.tmod 20 := ⟨_, rfl⟩
      have hxb := tmod20 x
      have hyb := tmod20 y
      rw [← hpx] at hxb
      rw [← hpy] at hyb
      have q1 : IntKind.i64.wrap px = px := by rw [IntKind.wrap_i64]; omega
      have q2 : IntKind.i64.wrap py = py := by rw [IntKind.wrap_i64]; omega
      have hpx' := hpx.symm
      have hpy' := hpy.symm
      have HPX := Lib.hid hpx
      have HPY := Lib.hid hpy
      have HB := Lib.hid hB
      clear hc hrow hO hpx hpy e0 e1 hxb hyb
      have hO1 : (wr.alloc (.cells #[.int .i64 px, .int .i64 py] 39 (0, 0))).drew.ownsRow w.heap.size 39 2 (.slice va j vc) j (((zs.take j).map fewC).flatMap encCell) := (HO.out.alloc _).drew
      have hNW : ∀ i u, [Value.int .i64 px, .int .i64 py][i]? = some u → (wr.alloc (.cells #[.int .i64 px, .int .i64 py] 39 (0, 0))).drew.cell? ((⟨wr.heap.size, 0, none⟩ : Addr).add i) = some u := World.news_of_block (B := wr.heap.size) (cs := #[.int .i64 px, .int .i64 py]) (blk_last wr _ rfl)
      have HNW := Lib.hid hNW
      clear hNW
      have HO1 := Lib.hid hO1
      clear hO1
      go_upto_region 5 with fail
      go_region_law ((refine step_append_lies _ rfl (.tmp 15) (.tmp 29) 24 rfl w.heap.size 39 i0 _ 2 16 Try.underlying24 hi hzz hzs hzb rfl (by omega) (.slice va j vc) j (((zs.take j).map fewC).flatMap encCell) rfl HO1.out ⟨wr.heap.size, 0, none⟩ 1 1 [.int .i64 px, .int .i64 py] rfl rfl HNW.out (by simp [Value.oneCell']) (by omega) (by unfold maxLen; omega) (by omega) (by simp; omega) _ rfl ?_; intro g cap1 w1 hown1 hgrow1 hat1 hlt1))
      all_goals
        have hN : Below w.heap.size w w1 := ((HB.out.alloc hbs _).drew.grown hgrow1 (by simp; omega) (fun q hq => (HO.out.lt q hq).1))
        have hrow : w1.ownsRow w.heap.size 39 2 (.slice (some ⟨g, 0, none⟩) (j + 1) cap1) (j + 1) (((zs.take (j + 1)).map fewC).flatMap encCell) := by
          rw [List.take_add_one, HC.out, List.map_append, List.flatMap_append]
          show w1.ownsRow _ _ _ _ _ (_ ++ ([fewC (x, y)].flatMap encCell))
          have e : [fewC (x, y)].flatMap encCell = [.int .i64 px, .int .i64 py] := by rw [HPX.out, HPY.out]; rfl
          rw [e]; exact hown1
        clear hown1 hgrow1 hat1 hlt1
        go_wp2_with fail
        exact ⟨⟨j + 1, by go_num, by omega, by omega, hN, hrow⟩, by simp [intOf]; omega⟩
    · have hlast : (zs.take j).map fewC = fewF zs := by
        unfold fewF
        congr 1
        have h1 : j = n ∨ j = 40 := by omega
        rcases h1 with h1 | h1
        · rw [List.take_of_length_le (by have := HN.out; omega), List.take_of_length_le (by have := HN.out; omega)]
        · rw [h1]
      have hlen : j = (fewF zs).length := by
        rw [← hlast, List.length_map, List.length_take]
        have := HN.out; omega
      rw [hlast] at hO
      have HO := Lib.hid hO
      have HL := Lib.hid hlen
      clear hlast hO hlen
      by_cases h1 : j < n
      · have t1 : decide ((j : Int) < (n : Int)) = true := decide_eq_true (by omega)
        have t2 : decide ((j : Int) < 40) = false := decide_eq_false (by omega)
        have t3 : decide (j < n) = true := decide_eq_true h1
        have t4 : decide (j < 40) = false := decide_eq_false (by omega)
        clear hlt
        go_wp2_with fail
        go_ret
        refine ⟨_, rfl, hB, ?_⟩
        have h2 := HO.out
        rwa [HL.out] at h2
      · have t1 : decide ((j : Int) < (n : Int)) = false := decide_eq_false (by omega)
        have t3 : decide (j < n) = false := decide_eq_false h1
        clear hlt
        go_wp2_with fail
        go_ret
        refine ⟨_, rfl, hB, ?_⟩
        have h2 := HO.out
        rwa [HL.out] at h2
end Go.Proofs.Ytabhpbkkjijfjaa
namespace Go.Proofs.Ytabhpbkkjijfjaa
set_option maxRecDepth 100000
open Go.RowKit

theorem Den.levelA {S : ArS} (ok : ArOk S) {t n : Nat} {T : Tree} {id : Int} (h : Den S.L t n T id) (ht : t < 64) : levelA S (t : Int) id = ((n : Int), 0) := by
  rw [levelA_yes ht h.owns, h.lev ok]
theorem make_intmap (W : World) : (Instr.makeMap 52 none).run Try.prog W = .ok (.map (some W.heap.size)) (W.alloc (.map #[] 0)) := rfl
/-- A walker of one's own. -/
theorem walk_any (b t : Nat) (w : World) : Calls Try.prog 19 #[.pointer (some ⟨b, 0, none⟩), .int .i64 t] w fun e w' => e = .returned (.pointer (some ⟨w.heap.size + 1, 0, none⟩)) ∧ Below w.heap.size w w' ∧ w'.heap[w.heap.size]? = some (.map #[] 0) ∧ w'.heap.size = w.heap.size + 2 ∧ HandAt (w.heap.size + 1) b t 0 54 (some (.map (some w.heap.size))) w' := by
  have hmk := make_intmap
  go_enter Try.func19, Try.ntmps19
  go_wp2_with fail
  go_ret
  refine ⟨by simp, ((Below.refl _ _).alloc (Nat.le_refl _) _).alloc (by simp) _, ?_, by simp, ?_⟩
  · rw [Below.heap_alloc _ _ _ (by simp)]; exact blk_last w _ rfl
  · refine ⟨#[.pointer (some ⟨b, 0, none⟩), .int .i64 t, .int .i64 0, .map (some w.heap.size)], ?_, rfl, rfl, rfl, rfl⟩
    have h := blk_last (w.alloc (.map #[] 0)) (.cells #[.pointer (some ⟨b, 0, none⟩), .int .i64 t, .int .i64 0, .map (some w.heap.size)] 54 (0, 0)) rfl
    simpa using h
end Go.Proofs.Ytabhpbkkjijfjaa
