-- Shared by this seat's claims: the words, what the printer printed, and the given functions' own texts, packed by wip/pack.py.
import Derived.Test.Ytnegohkckgfbiaaqb2
import Derived.Deep.AppendSrc
import Derived.Laws.NewBlocks
import Derived.LoopIn
import Derived.LoopNIn
import Derived.Outline
import Derived.OwnWalkIn
import Derived.RangeFuncBound
import Derived.RangeFuncBox
import Derived.RangeFuncCalls
import Derived.RangeFuncLeaves
import Derived.RangeFuncNested
import Derived.Shelf.Abstract
import Derived.TacticsInMore
/-
  slices.Insert of one element into a row of the call's own: the four roads.
-/
set_option linter.unusedVariables false
set_option linter.unusedSimpArgs false
namespace Go.Proofs.Ytnegohkckgfbiaa.Ins
open Go Go.RowKit Go.Proofs.Ytnegohkckgfbiaa.Blk

theorem info : (Try.prog.info? 26).map (fun i => (i.zero, i.size, i.bytes)) = some (some (.agg #[(.int .i64 0), (.int .i64 0), (.int .i64 0), (.int .i64 0)]), 4, 32) := by kernel_rfl
theorem infoS : (Try.prog.info? 26).map (·.size) = some 4 := by kernel_rfl

set_option maxHeartbeats 4000000 in
set_option maxRecDepth 100000 in
theorem shift (w : World) (g n c i vb : Nat) (cur vs mid : List Value) (hi : i < n) (hroom : n + 1 ≤ c) (hc63 : c ≤ 9223372036854775807) (hvb : vb ≠ g)
    (hg : w.heap[g]? = some (.cells cur.toArray 26 (0, 0))) (hcur : cur.length = c * 4)
    (vc : Nat) (vcur : List Value) (hv : w.heap[vb]? = some (.cells vcur.toArray 26 (0, 0))) (hvk : 4 ≤ vcur.length) (hvt : vcur.take 4 = vs) (hvl : vs.length = 4) (h1v : ∀ v ∈ vs, v.oneCell' = true)
    (hmid : (cur.drop (i * 4)).take ((n - i) * 4) = mid) (h1c : ∀ v ∈ mid, v.oneCell' = true) :
    Calls Try.prog 26 #[.slice (some ⟨g, 0, none⟩) n c, .int .i64 i, .slice (some ⟨vb, 0, none⟩) 1 vc] w fun e w' =>
      e = .returned (.slice (some ⟨g, 0, none⟩) (n + 1) c) ∧ w' = (w.drew.setRow g (splice cur ((i + 1) * 4) mid).toArray).setRow g (splice (splice cur ((i + 1) * 4) mid) (i * 4) vs).toArray := by
  have hz2 : ¬ ((i : Int) = (n : Int)) := by omega
  have hw1 : IntKind.i64.wrap ((i : Int) + 1) = (i : Int) + 1 := by rw [IntKind.wrap_i64]; omega
  have hb1 : (0 : Int) ≤ (i : Int) + 1 := by omega
  have hin : i ≤ n := by omega
  have htn : ((i : Int) + 1).toNat = i + 1 := by omega
  have hb2 : ¬ (c = i + 1) := by omega
  have hb3 : (i : Int) ≤ (n : Int) + 1 := by omega
  have hb4 : ¬ (c = i) := by omega
  have hg0 : 0 < cur.length := by rw [hcur]; omega
  have hml : mid.length = (n - i) * 4 := by rw [← hmid, List.length_take, List.length_drop, hcur]; omega
  have hsa : w.shape? vb = some (26, vcur.length) := by simp [World.shape?, hv]
  have hsb : w.shape? g = some (26, c * 4) := by simp [World.shape?, hg, hcur]
  have hfa : ∀ k, w.frozen? ⟨vb, k, none⟩ = false := fun k => by simp [World.frozen?, hv]
  have hov : ∀ lb cb, (callFunc 38 #[.slice (some ⟨vb, 0, none⟩) 1 vc, .slice (some ⟨g, (i + 1) * 4, none⟩) lb cb]).run Try.prog w = .ok (.value (.bool false)) w := fun lb cb => by
    rw [run_callFunc_extern Try.func38 (by kernel_rfl) (by kernel_rfl) (by kernel_rfl) (e := Extern.SlicesOverlaps.overlaps #[22, 22] #[4]) (by kernel_rfl),
      Lib.run_overlaps_apart w 22 4 26 Try.underlying22 4 (fun _ => by kernel_rfl) ⟨vb, 0, none⟩ ⟨g, (i + 1) * 4, none⟩ 1 vc lb cb hvb 26 26 vcur.length (c * 4) hsa hsb (by omega) (hfa 0) (hfa _)]
    rfl
  have hgd : w.drew.heap[g]? = some (.cells cur.toArray 26 (0, 0)) := hg
  have hcp1 : ∀ ty dc sc, (Builtin.copy_ #[22, 22] ty #[.slice (some ⟨g, (i + 1) * 4, none⟩) (n - i) dc, .slice (some ⟨g, i * 4, none⟩) (n + 1 - i) sc]).run Try.prog w.drew = .ok (goInt ((n - i : Nat) : Int)) (w.drew.setRow g (splice cur ((i + 1) * 4) mid).toArray) := fun ty dc sc =>
    run_copy_blk w.drew 22 ty 26 4 Try.underlying22 infoS g ((i + 1) * 4) (n - i) dc ⟨g, i * 4, none⟩ (n + 1 - i) sc (n - i) cur mid 26 hgd (by simp only [Nat.min_def]; split <;> omega) hml
      (fun j v hj => by
        rw [add_at, cell_of_row _ _ _ _ _ _ hgd]
        rw [← hmid, List.getElem?_take] at hj
        split at hj
        · rw [List.getElem?_drop] at hj
          simpa using hj
        · cases hj) (by rw [hml, hcur]; omega) h1c
  obtain ⟨C1, hC1⟩ : ∃ C1, C1 = splice cur ((i + 1) * 4) mid := ⟨_, rfl⟩
  rw [← hC1] at hcp1 ⊢
  have hC1l : C1.length = c * 4 := by rw [hC1, length_splice _ _ _ (by rw [hml, hcur]; omega), hcur]
  obtain ⟨W1, hW1⟩ : ∃ W1, W1 = w.drew.setRow g C1.toArray := ⟨_, rfl⟩
  have hg1 : W1.heap[g]? = some (.cells C1.toArray 26 (0, 0)) := by rw [hW1]; exact setRow_block _ _ _ _ _ _ hgd
  have hv1 : W1.heap[vb]? = some (.cells vcur.toArray 26 (0, 0)) := by rw [hW1, setRow_far _ _ _ _ hvb]; exact hv
  have hcp2 : ∀ ty dc, (Builtin.copy_ #[22, 22] ty #[.slice (some ⟨g, i * 4, none⟩) (n + 1 - i) dc, .slice (some ⟨vb, 0, none⟩) 1 vc]).run Try.prog W1 = .ok (goInt ((1 : Nat) : Int)) (W1.setRow g (splice C1 (i * 4) vs).toArray) := fun ty dc =>
    run_copy_blk W1 22 ty 26 4 Try.underlying22 infoS g (i * 4) (n + 1 - i) dc ⟨vb, 0, none⟩ 1 vc 1 C1 vs 26 hg1 (by simp only [Nat.min_def]; split <;> omega) (by rw [hvl])
      (fun j v hj => by
        rw [add_at, cell_of_row _ _ _ _ _ _ hv1]
        rw [← hvt, List.getElem?_take] at hj
        split at hj
        · simpa using hj
        · cases hj) (by rw [hvl, hC1l]; omega) h1v
  rw [← hW1] at hcp1 ⊢
  clear hg hv hvt hvk hcur hvl hmid hg0 hml hsa hsb hfa hgd hC1 hC1l hW1 hg1 hv1
  go_enter Try.func26, Try.ntmps26
  go_wp2_with (simp only [hov])
  go_region_law (refine step_copy_run rfl _ _ 22 22 rfl _ _ (by simp [Act.eval, Act.put]) (by simp [Act.eval, Act.put]) (hcp1 _ _ _) ?_)
  go_wp2_with (at_builtin; refine wpList_copy_run _ rfl _ _ 22 22 rfl _ _ rfl rfl (hcp2 _ _) ?_)
  go_ret
  exact ⟨rfl, rfl⟩

theorem app3 {α : Type} (p : List α) (A B : Array α) : p.toArray ++ A ++ B = (p ++ A.toList ++ B.toList).toArray := by
  cases A
  cases B
  simp
theorem zero_len (n : Nat) : (Builtin.zeroCells (.agg #[(.int .i64 0), (.int .i64 0), (.int .i64 0), (.int .i64 0)] : Value).cells n).size = n * 4 := by simp [Builtin.zeroCells, Value.cells]

set_option maxHeartbeats 4000000 in
set_option maxRecDepth 100000 in
theorem grow (w : World) (g n c i vb : Nat) (cur vs mid pre : List Value) (hi : i < n) (hnc : n ≤ c) (hroom : c < n + 1) (hbig : (n + 1) * 32 ≤ 140737488355328)
    (hg : w.heap[g]? = some (.cells cur.toArray 26 (0, 0))) (hcur : cur.length = c * 4)
    (vc : Nat) (vcur : List Value) (hv : w.heap[vb]? = some (.cells vcur.toArray 26 (0, 0))) (hvk : 4 ≤ vcur.length) (hvt : vcur.take 4 = vs) (hvl : vs.length = 4) (h1v : ∀ v ∈ vs, v.oneCell' = true)
    (hmid : (cur.drop (i * 4)).take ((n - i) * 4) = mid) (h1c : ∀ v ∈ mid, v.oneCell' = true) (hpre : cur.take (i * 4) = pre) :
    Calls Try.prog 26 #[.slice (some ⟨g, 0, none⟩) n c, .int .i64 i, .slice (some ⟨vb, 0, none⟩) 1 vc] w fun e w' =>
      ∃ (G : Nat) (rest : List Value) (W : World), n + 1 ≤ G ∧ G ≤ maxLen ∧ rest.length + (n + 1) * 4 = G * 4 ∧ e = .returned (.slice (some ⟨w.heap.size, 0, none⟩) (n + 1) G) ∧ Below w.heap.size w W ∧ W.heap.size = w.heap.size + 1 ∧
        W.heap[w.heap.size]? = some (.cells (pre ++ (vs ++ (mid ++ rest))).toArray 26 (0, 0)) ∧ w' = W := by
  obtain ⟨i0, hi0, hzz⟩ := Option.map_eq_some_iff.1 info
  simp only [Prod.mk.injEq] at hzz
  obtain ⟨hz0, hz1, hz2⟩ := hzz
  have hz2' : ¬ ((i : Int) = (n : Int)) := by omega
  have hw1 : IntKind.i64.wrap ((i : Int) + 1) = (i : Int) + 1 := by rw [IntKind.wrap_i64]; omega
  have hb1 : (0 : Int) ≤ (i : Int) + 1 := by omega
  have hin : i ≤ n := by omega
  have htn : ((i : Int) + 1).toNat = i + 1 := by omega
  have hb3 : (i : Int) ≤ (n : Int) := by omega
  have hb4 : ¬ (c = i) := by omega
  have hkk : (n : Int) + 1 - (i : Int) = ((n + 1 - i : Nat) : Int) := by omega
  have hik : i + (n + 1 - i) = n + 1 := by omega
  have hg0 : 0 < cur.length := by rw [hcur]; omega
  have hml : mid.length = (n - i) * 4 := by rw [← hmid, List.length_take, List.length_drop, hcur]; omega
  have hpl : pre.length = i * 4 := by rw [← hpre, List.length_take, hcur]; omega
  have hn63 : n ≤ 140737488355328 := by omega
  have hgl : g < w.heap.size := (Array.getElem?_eq_some_iff.1 hg).1
  have hvl2 : vb < w.heap.size := (Array.getElem?_eq_some_iff.1 hv).1
  have hgd : w.drew.heap[g]? = some (.cells cur.toArray 26 (0, 0)) := hg
  have hold : (Builtin.firstCells i0.size i (.slice (some ⟨g, 0, none⟩) i c)).run Try.prog w.drew = .ok pre.toArray w.drew := by
    rw [hz1]
    exact run_firstCells_some w.drew 4 i ⟨g, 0, none⟩ i c pre hpl (fun j v hj => by
      rw [add_at, cell_of_row _ _ _ _ _ _ hgd]
      rw [← hpre, List.getElem?_take] at hj
      split at hj
      · simpa using hj
      · cases hj)
  obtain ⟨G, hG⟩ : ∃ G, G = grownCap w (n + 1) c 26 := ⟨_, rfl⟩
  obtain ⟨ROW, hROW⟩ : ∃ ROW : List Value, ROW = pre ++ (Builtin.zeroCells (.agg #[(.int .i64 0), (.int .i64 0), (.int .i64 0), (.int .i64 0)] : Value).cells (n + 1 - i)).toList ++ (Builtin.zeroCells (.agg #[(.int .i64 0), (.int .i64 0), (.int .i64 0), (.int .i64 0)] : Value).cells (G - (n + 1))).toList := ⟨_, rfl⟩
  have hrz : ∀ ty, (Builtin.append_ #[22, 3] ty #[.slice (some ⟨g, 0, none⟩) i c, .int .i64 ((n : Int) + 1 - (i : Int))]).run Try.prog w =
      .ok (.slice (some ⟨w.heap.size, 0, none⟩) (n + 1) G) (w.drew.alloc (.cells ROW.toArray 26)) := fun ty => by
    have h := Lib.run_append_grow_zeros w 22 3 ty 26 i0 _ .i64 .i64 Try.underlying22 Try.underlying3 hi0 hz0 (some ⟨g, 0, none⟩) i c pre hold (n + 1 - i) (by omega) (by omega) (by omega) (by omega) (by rw [hz2]; omega) (by rw [hz2, hik]; exact growslice_fits hroom hbig)
    rw [hik, ← hG, app3] at h
    rw [hkk, h, hROW]
  have hGn : n + 1 ≤ G := by rw [hG]; exact grownCap_ge w _ _ _
  have hG63 : G ≤ maxLen := by
    have := grownCap_le_maxLen w (n + 1) c 26 (by unfold maxLen; omega)
    rw [← hG] at this
    exact this
  have hG64 : G ≤ 9223372036854775807 := by unfold maxLen at hG63; omega
  have hRl : ROW.length = G * 4 := by
    rw [hROW]
    simp only [List.length_append, Array.length_toList, zero_len, hpl]
    omega
  have hGi : ¬ (G = i) := by omega
  have hGim : ¬ (G = i + 1) := by omega
  have hn0 : g ≠ w.heap.size := by omega
  obtain ⟨W1, hW1⟩ : ∃ W1, W1 = (w.alloc (.cells ROW.toArray 26)).drew := ⟨_, rfl⟩
  have hg1 : W1.heap[w.heap.size]? = some (.cells ROW.toArray 26 (0, 0)) := by rw [hW1]; exact heap_alloc_new w _
  have hB1 : Below w.heap.size w W1 := by rw [hW1]; exact ((Below.refl _ w).alloc (Nat.le_refl _) _).drew
  have hv1 : W1.heap[vb]? = some (.cells vcur.toArray 26 (0, 0)) := (hB1.block vb hvl2).trans hv
  have hcA : ∀ ty dc, (Builtin.copy_ #[22, 22] ty #[.slice (some ⟨w.heap.size, i * 4, none⟩) (n + 1 - i) dc, .slice (some ⟨vb, 0, none⟩) 1 vc]).run Try.prog W1 = .ok (goInt ((1 : Nat) : Int)) (W1.setRow w.heap.size (splice ROW (i * 4) vs).toArray) := fun ty dc =>
    run_copy_blk W1 22 ty 26 4 Try.underlying22 infoS w.heap.size (i * 4) (n + 1 - i) dc ⟨vb, 0, none⟩ 1 vc 1 ROW vs 26 hg1 (by simp only [Nat.min_def]; split <;> omega) (by rw [hvl])
      (fun j v hj => by
        rw [add_at, cell_of_row _ _ _ _ _ _ hv1]
        rw [← hvt, List.getElem?_take] at hj
        split at hj
        · simpa using hj
        · cases hj) (by rw [hvl, hRl]; omega) h1v
  obtain ⟨R1, hR1⟩ : ∃ R1, R1 = splice ROW (i * 4) vs := ⟨_, rfl⟩
  rw [← hR1] at hcA
  have hR1l : R1.length = G * 4 := by rw [hR1, length_splice _ _ _ (by rw [hvl, hRl]; omega), hRl]
  obtain ⟨W2, hW2⟩ : ∃ W2, W2 = W1.setRow w.heap.size R1.toArray := ⟨_, rfl⟩
  have hg2 : W2.drew.heap[w.heap.size]? = some (.cells R1.toArray 26 (0, 0)) := by rw [hW2]; exact setRow_block _ _ _ _ _ _ hg1
  have hB2 : Below w.heap.size w W2.drew := by rw [hW2]; exact (setRow_below hB1 (Nat.le_refl _) _).drew
  have hgs : W2.drew.heap[g]? = some (.cells cur.toArray 26 (0, 0)) := (hB2.block g hgl).trans hg
  have hcB : ∀ ty dc sc, (Builtin.copy_ #[22, 22] ty #[.slice (some ⟨w.heap.size, (i + 1) * 4, none⟩) (n - i) dc, .slice (some ⟨g, i * 4, none⟩) (n - i) sc]).run Try.prog W2.drew = .ok (goInt ((n - i : Nat) : Int)) (W2.drew.setRow w.heap.size (splice R1 ((i + 1) * 4) mid).toArray) := fun ty dc sc =>
    run_copy_blk W2.drew 22 ty 26 4 Try.underlying22 infoS w.heap.size ((i + 1) * 4) (n - i) dc ⟨g, i * 4, none⟩ (n - i) sc (n - i) R1 mid 26 hg2 (by simp) hml
      (fun j v hj => by
        rw [add_at, cell_of_row _ _ _ _ _ _ hgs]
        rw [← hmid, List.getElem?_take] at hj
        split at hj
        · rw [List.getElem?_drop] at hj
          simpa using hj
        · cases hj) (by rw [hml, hR1l]; omega) h1c
  have fin : ∃ rest : List Value, rest.length + (n + 1) * 4 = G * 4 ∧ splice R1 ((i + 1) * 4) mid = pre ++ (vs ++ (mid ++ rest)) := by
    refine ⟨R1.drop ((i + 1) * 4 + mid.length), by rw [List.length_drop, hR1l, hml]; omega, ?_⟩
    have hp1 : R1.take ((i + 1) * 4) = pre ++ vs := by
      rw [hR1]
      have := splice_at ROW vs (i * 4) (by rw [hRl]; omega)
      rw [hvl] at this
      rw [show (i + 1) * 4 = i * 4 + 4 by omega, this, hROW, List.append_assoc, List.take_append_of_le_length (by omega), List.take_of_length_le (by omega)]
    unfold splice
    rw [hp1]
    simp
  have hB3 : Below w.heap.size w (W2.drew.setRow w.heap.size (splice R1 ((i + 1) * 4) mid).toArray) := setRow_below hB2 (Nat.le_refl _) _
  have hs3 : (W2.drew.setRow w.heap.size (splice R1 ((i + 1) * 4) mid).toArray).heap.size = w.heap.size + 1 := by rw [hW2, hW1]; simp [World.setRow]
  have hg3 : (W2.drew.setRow w.heap.size (splice R1 ((i + 1) * 4) mid).toArray).heap[w.heap.size]? = some (.cells (splice R1 ((i + 1) * 4) mid).toArray 26 (0, 0)) := setRow_block _ _ _ _ _ _ hg2
  obtain ⟨W3, hW3⟩ : ∃ W3, W3 = W2.drew.setRow w.heap.size (splice R1 ((i + 1) * 4) mid).toArray := ⟨_, rfl⟩
  rw [← hW3] at hcB hB3 hs3 hg3
  obtain ⟨rest, hrest, hf⟩ := fin
  rw [hf] at hg3
  rw [← hW2] at hcA
  have F1 := Lib.hid (show n + 1 ≤ G ∧ G ≤ maxLen ∧ rest.length + (n + 1) * 4 = G * 4 from ⟨hGn, hG63, hrest⟩)
  have F2 := Lib.hid (show Below w.heap.size w W3 ∧ W3.heap.size = w.heap.size + 1 ∧ W3.heap[w.heap.size]? = some (.cells (pre ++ (vs ++ (mid ++ rest))).toArray 26 (0, 0)) from ⟨hB3, hs3, hg3⟩)
  have hrz' : ∀ ty, (Builtin.append_ #[22, 3] ty #[.slice (some ⟨g, 0, none⟩) i c, .int .i64 ((n : Int) + 1 - (i : Int))]).run Try.prog w = .ok (.slice (some ⟨w.heap.size, 0, none⟩) (n + 1) G) W1 := fun ty => by rw [hW1]; exact hrz ty
  clear hg hv hvt hvk hcur hvl hmid hpre hg0 hml hpl hgd hold hROW hrz hRl hG hG63 hGn hg1 hB1 hv1 hR1 hR1l hg2 hB2 hgs hf hB3 hs3 hg3 hi0 hz0 hz1 hz2 hrest hkk hik hW1 hW2 hW3 hgl hvl2 hbig
  go_enter Try.func26, Try.ntmps26
  go_wp2_with (first
    | (at_builtin; refine wpList_append_run _ rfl _ _ 22 3 rfl _ _ rfl rfl (hrz' _) ?_)
    | (at_builtin; refine wpList_copy_run _ rfl _ _ 22 22 rfl _ _ rfl rfl (hcA _ _) ?_))
  go_region_law (refine step_copy_run rfl _ _ 22 22 rfl _ _ (by simp [Act.eval, Act.put]) (by simp [Act.eval, Act.put]) (hcB _ _ _) ?_)
  go_wp2
  go_ret
  exact ⟨G, rest, W3, F1.out.1, F1.out.2.1, F1.out.2.2, rfl, F2.out.1, F2.out.2.1, F2.out.2.2, rfl⟩

def EndOf (w : World) (base n : Nat) (ob : Option Nat) (ys : List Value) (e : Ending) (w' : World) : Prop :=
  ∃ v' : Value, e = .returned v' ∧ w'.ownsRow base 26 4 v' (n + 1) ys ∧ w.grownBy w' ob ∧ (v'.ownBlock = ob ∨ v'.ownBlock = some w.heap.size)

set_option maxHeartbeats 4000000 in
set_option maxRecDepth 100000 in
theorem atEnd (w : World) (base n c vb : Nat) (A : Option Addr) (xs vs : List Value) (hbig : (n + 1) * 32 ≤ 140737488355328) (hbase : base ≤ w.heap.size)
    (ho : w.ownsRow base 26 4 (.slice A n c) n xs)
    (vc : Nat) (vcur : List Value) (hv : w.heap[vb]? = some (.cells vcur.toArray 26 (0, 0))) (hvk : 4 ≤ vcur.length) (hvt : vcur.take 4 = vs) (hvl : vs.length = 4) (h1v : ∀ v ∈ vs, v.oneCell' = true) :
    Calls Try.prog 26 #[.slice A n c, .int .i64 n, .slice (some ⟨vb, 0, none⟩) 1 vc] w (EndOf w base n (Value.slice A n c).ownBlock (xs ++ vs)) := by
  obtain ⟨i0, hi0, hzz⟩ := Option.map_eq_some_iff.1 info
  simp only [Prod.mk.injEq] at hzz
  obtain ⟨hz0, hz1, hz2⟩ := hzz
  have hn63 : n ≤ 140737488355328 := by omega
  obtain ⟨v', W, hrun, hown, hgr, _, hat⟩ := run_append_own_at (P := Try.prog) w base 22 22 26 i0 _ 4 32 Try.underlying22 hi0 hz0 hz1 hz2 rfl (by omega) _ n xs ho ⟨vb, 0, none⟩ 1 vc vs (by rw [hvl])
    (fun j u hj => by
      rw [add_at, cell_of_row _ _ _ _ _ _ hv]
      rw [← hvt, List.getElem?_take] at hj
      split at hj
      · simpa using hj
      · cases hj) h1v (by unfold maxLen; omega) hbig hbase
  have hrun' : ∀ ty, (Builtin.append_ #[22, 22] ty #[.slice A n c, .slice (some ⟨vb, 0, none⟩) 1 vc]).run Try.prog w = .ok v' W := fun ty => hrun
  have hcap : n ≤ c := by
    rcases ho.2 with ⟨h1, h2⟩ | ⟨g, cap, cur, h1, hb, _, h3, _⟩
    · simp at h1; omega
    · simp at h1; omega
  have hcap63 : c ≤ 9223372036854775807 := by
    rcases ho.2 with ⟨h1, h2⟩ | ⟨g, cap, cur, h1, hb, _, h3, h4, _⟩
    · simp at h1; omega
    · simp at h1
      unfold maxLen at h4
      omega
  have F := Lib.hid (show W.ownsRow base 26 4 v' (n + 1) (xs ++ vs) ∧ w.grownBy W (Value.slice A n c).ownBlock ∧ (v'.ownBlock = (Value.slice A n c).ownBlock ∨ v'.ownBlock = some w.heap.size) from ⟨hown, hgr, hat⟩)
  clear hrun hown hgr hat ho hv hvt hvk hvl hbig hbase hi0 hz0 hz1 hz2
  cases A with
  | none =>
    go_enter Try.func26, Try.ntmps26
    go_wp2_with (at_builtin; refine wpList_append_run _ rfl _ _ 22 22 rfl _ _ rfl rfl (hrun' _) ?_)
    all_goals (go_ret; exact ⟨v', rfl, F.out.1, F.out.2.1, F.out.2.2⟩)
  | some a =>
    obtain ⟨ab, ao, asp⟩ := a
    go_enter Try.func26, Try.ntmps26
    go_wp2_with (at_builtin; refine wpList_append_run _ rfl _ _ 22 22 rfl _ _ rfl rfl (hrun' _) ?_)
    all_goals (go_ret; exact ⟨v', rfl, F.out.1, F.out.2.1, F.out.2.2⟩)

/-- slices.Insert(s, i, x), s a row of the call's own, x in another block. -/
theorem ins (w : World) (base n c i vb : Nat) (A : Option Addr) (xs vs : List Value) (hi : i ≤ n) (hbig : (n + 1) * 32 ≤ 140737488355328) (hbase : base ≤ w.heap.size)
    (ho : w.ownsRow base 26 4 (.slice A n c) n xs) (h1x : ∀ v ∈ xs, v.oneCell' = true)
    (vc : Nat) (vcur : List Value) (hv : w.heap[vb]? = some (.cells vcur.toArray 26 (0, 0))) (hvk : 4 ≤ vcur.length) (hvt : vcur.take 4 = vs) (hvl : vs.length = 4) (h1v : ∀ v ∈ vs, v.oneCell' = true) (hvb : (Value.slice A n c).ownBlock ≠ some vb) :
    Calls Try.prog 26 #[.slice A n c, .int .i64 i, .slice (some ⟨vb, 0, none⟩) 1 vc] w fun e w' =>
      ∃ v' : Value, e = .returned v' ∧ w'.ownsRow base 26 4 v' (n + 1) (xs.take (i * 4) ++ (vs ++ xs.drop (i * 4))) ∧ w.grownBy w' (Value.slice A n c).ownBlock ∧ (v'.ownBlock = (Value.slice A n c).ownBlock ∨ v'.ownBlock = some w.heap.size) := by
  rcases Nat.lt_or_ge i n with hlt | hge
  · obtain ⟨g, cap, cur, he, hb, hg, hnc, hc, hcl, hx⟩ := block_of_own ho (by omega)
    simp only [Value.slice.injEq, true_and] at he
    obtain ⟨rfl, rfl⟩ := he
    have hne : vb ≠ g := fun h => hvb (by simp [Value.ownBlock, h])
    have hm1 : (cur.drop (i * 4)).take ((n - i) * 4) = xs.drop (i * 4) := by
      rw [← hx, List.drop_take]
      congr 1
      omega
    have hp1 : cur.take (i * 4) = xs.take (i * 4) := by
      rw [← hx, List.take_take]
      congr 1
      omega
    have h1m : ∀ v ∈ xs.drop (i * 4), v.oneCell' = true := fun v hv => h1x v (List.mem_of_mem_drop hv)
    have hc63 : c ≤ 9223372036854775807 := by unfold maxLen at hc; omega
    rcases Nat.lt_or_ge c (n + 1) with hno | hroom
    · refine (grow w g n c i vb cur vs _ _ hlt hnc hno hbig hg hcl vc vcur hv hvk hvt hvl h1v hm1 h1m hp1).mono ?_
      rintro e w' ⟨G, rest, W, hG1, hG2, hr, rfl, hB, hsz, hW, rfl⟩
      have hml : (xs.drop (i * 4)).length = (n - i) * 4 := by
        rw [← hm1, List.length_take, List.length_drop, hcl]
        omega
      have hpl : (xs.take (i * 4)).length = i * 4 := by rw [← hp1, List.length_take, hcl]; omega
      refine ⟨_, rfl, own_of_block hbase hW hG1 hG2 ?_ ?_, ⟨hB.os, hB.tape, hB.output, hB.size, fun k hk _ => hB.block k hk⟩, .inr rfl⟩
      · simp only [List.length_append, hml, hpl, hvl]
        omega
      · rw [← List.append_assoc, ← List.append_assoc, List.take_append_of_le_length (by simp only [List.length_append, hml, hpl, hvl]; omega)]
        rw [List.take_of_length_le (by simp only [List.length_append, hml, hpl, hvl]; omega), List.append_assoc]
    · refine (shift w g n c i vb cur vs _ hlt hroom hc63 hne hg hcl vc vcur hv hvk hvt hvl h1v hm1 h1m).mono ?_
      rintro e w' ⟨rfl, rfl⟩
      have hml : (xs.drop (i * 4)).length = (n - i) * 4 := by
        rw [← hm1, List.length_take, List.length_drop, hcl]
        omega
      have hl1 : (splice cur ((i + 1) * 4) (xs.drop (i * 4))).length = c * 4 := by rw [length_splice _ _ _ (by rw [hml, hcl]; omega), hcl]
      have hgd : w.drew.heap[g]? = some (.cells cur.toArray 26 (0, 0)) := hg
      have hg1 := setRow_block w.drew g (splice cur ((i + 1) * 4) (xs.drop (i * 4))) cur _ _ hgd
      have hg2 := setRow_block _ g (splice (splice cur ((i + 1) * 4) (xs.drop (i * 4))) (i * 4) vs) _ _ _ hg1
      refine ⟨_, rfl, own_of_block hb hg2 hroom hc ?_ ?_, setRow_grown2 w g _ _, .inl rfl⟩
      · rw [length_splice _ _ _ (by rw [hl1, hvl]; omega), hl1]
      · unfold splice
        have e1 : (List.take ((i + 1) * 4) cur ++ (List.drop (i * 4) xs ++ List.drop ((i + 1) * 4 + (List.drop (i * 4) xs).length) cur)).take (i * 4) = xs.take (i * 4) := by
          rw [List.take_append_of_le_length (by rw [List.length_take, hcl]; omega), List.take_take, ← hp1]
          congr 1
          omega
        have e2 : (List.take ((i + 1) * 4) cur ++ (List.drop (i * 4) xs ++ List.drop ((i + 1) * 4 + (List.drop (i * 4) xs).length) cur)).drop (i * 4 + vs.length) = List.drop (i * 4) xs ++ List.drop ((i + 1) * 4 + (List.drop (i * 4) xs).length) cur := by
          have hl : (List.take ((i + 1) * 4) cur).length = i * 4 + vs.length := by rw [List.length_take, hcl, hvl]; omega
          rw [← hl, List.drop_left]
        rw [e1, e2]
        have hpl : (xs.take (i * 4)).length = i * 4 := by rw [← hp1, List.length_take, hcl]; omega
        rw [← List.append_assoc, ← List.append_assoc, List.take_append_of_le_length (by simp only [List.length_append, hml, hpl, hvl]; omega)]
        rw [List.take_of_length_le (by simp only [List.length_append, hml, hpl, hvl]; omega), List.append_assoc]
  · obtain rfl : i = n := by omega
    refine (atEnd w base i c vb A xs vs hbig hbase ho vc vcur hv hvk hvt hvl h1v).mono ?_
    rintro e w' ⟨v', rfl, hown, hgr, hat⟩
    have hxl : xs.length = i * 4 := ho.1
    rw [List.take_of_length_le (by omega), List.drop_eq_nil_of_le (by omega), List.append_nil]
    exact ⟨v', rfl, hown, hgr, hat⟩
end Go.Proofs.Ytnegohkckgfbiaa.Ins
-- written by wip/xprint.py out of the translation (the kit's printer, driven)
namespace Go.Proofs.Ytnegohkckgfbiaa.X
open Go.RowKit Go.Proofs.YtnegohkckgfbiaaW.PrintWords Go.Proofs.YtnegohkckgfbiaaW.PrintLast Go.Proofs.YtnegohkckgfbiaaW.PrintMore
attribute [local go_sem] cell_twice max2_int min2_int max_two min_two max_three min_three max_four min_four   -- for this text's walks alone
set_option linter.unusedVariables false
set_option linter.unusedSimpArgs false

/-! ### api_Offer_26: function 26 -/
--import Derived.Test.YtnegohkckgfbiaaIns
def api_Offer_26.f (l0 : List (S26)) (a1 : Int) (l2 : List (S26)) : Option (List (S26)) := if (l0.length + 1) * 32 ≤ 140737488355328 ∧ 0 ≤ a1 ∧ a1 ≤ l0.length ∧ l2.length = 1 then some (l0.take a1.toNat ++ (l2 ++ l0.drop a1.toNat)) else none
theorem api_Offer_26.calls (P0_ : Nat → Prop) (u9000_ : Value) (l0 : List (S26)) (a1 : Int) (P2_ : Nat → Prop) (u9001_ : Value) (l2 : List (S26)) (r : List (S26)) (w0 w : World) (hB : Below w0.heap.size w0 w) (ho0 : Kd.R k26 26 w w0.heap.size P0_ u9000_ l0) (hp0_2 : ∀ k_, P0_ k_ → ¬ P2_ k_) (ho2 : Kd.R k26 26 w w0.heap.size P2_ u9001_ l2) (hp2_0 : ∀ k_, P2_ k_ → ¬ P0_ k_) (h : api_Offer_26.f l0 a1 l2 = some r) :
    Calls Try.prog 26 #[u9000_, .int .i64 a1, u9001_] w fun e w' => ∃ v0_ : Value, e = .returned v0_ ∧ Kd.R k26 26 w' w0.heap.size (fun k_ => ((P0_ k_ ∨ P2_ k_) ∨ w.heap.size ≤ k_)) v0_ r ∧ Below w0.heap.size w0 w' ∧ Kept w w' (fun k_ => (P0_ k_ ∨ P2_ k_)) := by
  unfold api_Offer_26.f at h
  by_cases hb : (l0.length + 1) * 32 ≤ 140737488355328 ∧ 0 ≤ a1 ∧ a1 ≤ l0.length ∧ l2.length = 1
  · rw [if_pos hb] at h
    obtain rfl := Option.some.inj h
    obtain ⟨hbig, h0, h1, h2⟩ := hb
    obtain ⟨i, rfl⟩ := Int.eq_ofNat_of_zero_le h0
    rw [Int.toNat_natCast]
    have hi : i ≤ l0.length := by omega
    obtain ⟨A, c, rfl⟩ := Kd.R_slice ho0
    have hf0 := flat_of_R ho0
    have hf2 := flat_of_R ho2
    obtain ⟨vb, vc, vcur, rfl, _, hv, hvc, _, hvk, hvt⟩ := Blk.block_of_own hf2 (by omega)
    have hP2 : P2_ vb := ho2.1 vb rfl
    have hl2 : (l2.flatMap enc26).length = 4 := by rw [Flat.flat_len (size := 4) enc26_len, h2]
    rw [h2] at hvt hvc ⊢
    rw [Nat.one_mul] at hvt
    refine (Ins.ins w w0.heap.size l0.length c i vb A (l0.flatMap enc26) (l2.flatMap enc26) hi hbig hB.size hf0 (Flat.flat_one enc26_one l0) vc vcur hv (by omega) hvt hl2 (Flat.flat_one enc26_one l2) (fun he => hp0_2 vb (ho0.1 vb he) hP2)).mono ?_
    rintro e w' ⟨v', rfl, hown, hgr, hat⟩
    have hlen : (l0.take i ++ (l2 ++ l0.drop i)).length = l0.length + 1 := by simp only [List.length_append, List.length_take, List.length_drop, h2]; omega
    have hflat : (l0.flatMap enc26).take (i * 4) ++ (l2.flatMap enc26 ++ (l0.flatMap enc26).drop (i * 4)) = (l0.take i ++ (l2 ++ l0.drop i)).flatMap enc26 := by
      rw [Flat.flat_take enc26_len, Flat.flat_drop enc26_len, List.flatMap_append, List.flatMap_append]
    rw [hflat, ← hlen] at hown
    have hS : ∀ k, (Value.slice A l0.length c).ownBlock = some k → P0_ k := ho0.1
    refine ⟨v', rfl, R_of_flat hown (fun k hk => ?_), hB.trans (Blk.below_of_grown hgr hB.size (fun k hk => own_base hf0 k hk)), ?_⟩
    · rcases hat with hat | hat
      · exact .inl (.inl (hS k (by rw [← hat]; exact hk)))
      · rw [hat] at hk
        injection hk with hk
        exact .inr (by omega)
    · exact ⟨hgr.size, fun k hk hn => hgr.block k hk (fun he => hn (.inl (hS k he.symm)))⟩
  · rw [if_neg hb] at h
    cases h


end Go.Proofs.Ytnegohkckgfbiaa.X
-- written by wip/xprint.py out of the translation (the kit's printer, driven)
namespace Go.Proofs.Ytnegohkckgfbiaa.X
open Go.RowKit Go.Proofs.YtnegohkckgfbiaaW.PrintWords Go.Proofs.YtnegohkckgfbiaaW.PrintLast Go.Proofs.YtnegohkckgfbiaaW.PrintMore
attribute [local go_sem] cell_twice max2_int min2_int max_two min_two max_three min_three max_four min_four   -- for this text's walks alone
set_option linter.unusedVariables false
set_option linter.unusedSimpArgs false

/-! ### offers_Make: function 12 -/
def offers_Make.j0 : Nat → List (S26) → Bool → Int → Int → Int → Int → Option ((List (S26)) × Int)
  | 0, _, _, _, _, _, _ => none
  | k + 1, x0, x15, x130000, x130001, x130002, x130003 => if x15 = true then (some (([] : List (S26)), 310)) else ((api_Offer_24.f k x0 x130000 x130001 x130002 x130003 ()).bind fun bt132 => (if bt132.2 = true then (some (([] : List (S26)), 310)) else ((api_Offer_27.f x0).bind fun t134 => ((api_Offer_26.f t134 bt132.1 (([(⟨x130000, (⟨x130001, x130002⟩ : S24), x130003⟩ : S26)] : List (S26)))).bind fun t140 => (some (t140, 0))))))
def offers_Make.f (k : Nat) (l0 : List (S26)) (a1_0 : Int) (a1_1 : Int) (a1_2 : Int) (a1_3 : Int) : Option ((List (S26)) × Int) := (offers_Check.f k l0).bind fun t130 => (if t130 = 0 then ((offers_fits.f a1_0 a1_1 a1_2 a1_3).bind fun t131 => (offers_Make.j0 k l0 (!t131) a1_0 a1_1 a1_2 a1_3)) else (offers_Make.j0 k l0 true a1_0 a1_1 a1_2 a1_3))
theorem offers_Make.mono_l : ∀ k, (∀ y0 y1 y2 y3 y4 y5, LeO (offers_Make.j0 k y0 y1 y2 y3 y4 y5) (offers_Make.j0 (k + 1) y0 y1 y2 y3 y4 y5))
  | 0 => fun _ _ _ _ _ _ r h => by simp [offers_Make.j0] at h
  | k + 1 => by
    have ih0 := offers_Make.mono_l k
    · intro y0 y1 y2 y3 y4 y5
      unfold offers_Make.j0
      repeat' first
      | (with_reducible exact ih0 _ _ _ _ _ _)
      | (with_reducible exact api_Offer_24.mono _ _ _ _ _ _ _)
      | (with_reducible exact offers_Check.mono _ _)
      | (with_reducible exact LeO.refl _)
      | (with_reducible exact LeO.none _)
      | (with_reducible refine LeO.ite ?_ ?_)
      | (with_reducible refine LeO.bind ?_ (fun _ => ?_))
      | exact ih0 _ _ _ _ _ _
      | exact api_Offer_24.mono _ _ _ _ _ _ _
      | exact offers_Check.mono _ _
      | exact LeO.none _
      | refine LeO.ite ?_ ?_
      | refine LeO.bind ?_ (fun _ => ?_)
theorem offers_Make.mono : ∀ a0 a1 a2 a3 a4 k, LeO (offers_Make.f k a0 a1 a2 a3 a4) (offers_Make.f (k + 1) a0 a1 a2 a3 a4) := by
  intro a0 a1 a2 a3 a4 k
  have ih0 := offers_Make.mono_l k
  unfold offers_Make.f
  repeat' first
      | (with_reducible exact ih0 _ _ _ _ _ _)
      | (with_reducible exact api_Offer_24.mono _ _ _ _ _ _ _)
      | (with_reducible exact offers_Check.mono _ _)
      | (with_reducible exact LeO.refl _)
      | (with_reducible exact LeO.none _)
      | (with_reducible refine LeO.ite ?_ ?_)
      | (with_reducible refine LeO.bind ?_ (fun _ => ?_))
      | exact ih0 _ _ _ _ _ _
      | exact api_Offer_24.mono _ _ _ _ _ _ _
      | exact offers_Check.mono _ _
      | exact LeO.none _
      | refine LeO.ite ?_ ?_
      | refine LeO.bind ?_ (fun _ => ?_)
def offers_Make.T6 : Bool × List (List Nat × List Nat) := (true, [([], []), ([0], [0]), ([], []), ([], []), ([3], [3]), ([1, 2, 4, 1], [1, 2, 4]), ([5, 5, 0, 1, 2, 3, 4, 5], [5]), ([6, 0, 1, 2, 3, 4, 5, 6], [])])
def offers_Make.B6 : List Nat := [0, 1, 0, 0, 8, 31, 63, 127]
theorem offers_Make.tab6 : rtab .any (opsOf Try.f12 6) = offers_Make.T6 := by kernel_rfl
theorem offers_Make.bits6 : waitsOk offers_Make.T6.2 offers_Make.B6 = true := by kernel_rfl
set_option maxHeartbeats 8000000 in
set_option maxRecDepth 100000 in
theorem offers_Make.calls (k : Nat) (A0 : Option Addr) (c0 : Nat) (l0 : List (S26)) (a1_0 : Int) (a1_1 : Int) (a1_2 : Int) (a1_3 : Int) (r1 : List (S26)) (r2 : Int) (w : World) (hr0 : Kd.C k26 w A0 l0.length l0) (hc0 : l0.length ≤ c0) (h : offers_Make.f k l0 a1_0 a1_1 a1_2 a1_3 = some (r1, r2)) :
    Calls Try.prog 12 #[.slice A0 l0.length c0, .agg #[.int .i64 a1_0, .int .i64 a1_1, .int .i64 a1_2, .int .i64 a1_3]] w fun e w' => ∃ v0_ : Value, e = .returned (.tuple #[v0_, .int .i64 r2]) ∧ Kd.R k26 26 w' w.heap.size (fun _ => True) v0_ r1 ∧ Below w.heap.size w w' := by
  have hu26 := Try.underlying26
  have HR0 := Aside0.mk hr0
  have HC0 := Aside0.mk hc0
  clear hr0 hc0
  have HB := Aside0.mk (Below.refl w.heap.size w)
  have H : ((offers_Check.f k l0).bind fun t130 => (if t130 = 0 then ((offers_fits.f a1_0 a1_1 a1_2 a1_3).bind fun t131 => (offers_Make.j0 k l0 (!t131) a1_0 a1_1 a1_2 a1_3)) else (offers_Make.j0 k l0 true a1_0 a1_1 a1_2 a1_3))) = some (r1, r2) := h
  clear h
  have HC3 := Aside0.mk H
  clear H
  go_enter Try.func12, Try.ntmps12
  go_upto_region 1 with (first | ((with_reducible refine gate_dst (N := 3) rfl ?_); refine box_event ?hg (N := 3) ?hd (cs := #[.int .i64 a1_0, .int .i64 a1_1, .int .i64 a1_2, .int .i64 a1_3]) (t := 26) ?hr ?_; (case hd => rfl); (case hg => rfl); (case hr => first | (go_simp; done) | (go_simp; rfl)); intro gb129 hg w4 hbox hb; have n0_ := Aside0.mk (below_step (by repeat (first | (with_reducible first | exact HB.out | apply below_alloc | apply pw_below_drewN | apply below_drew1) | exact HB.out)) hb); have n1_ := Aside0.mk (hbox); have n2_ := Aside0.mk ((by rw [hg]; exact (below_size (by repeat (first | (with_reducible first | exact HB.out | apply below_alloc | apply pw_below_drewN | apply below_drew1) | exact HB.out))) : w.heap.size ≤ gb129)); have n3_ := Aside0.mk ((by rw [hg]; exact (below_size (by repeat (first | (with_reducible first | exact HB.out | apply below_alloc | apply pw_below_drewN | apply below_drew1) | exact HB.out))) : w.heap.size ≤ gb129)); clear HB; have HB := n0_; have BK129 := n1_; have GW129 := n2_; have GE129 := n3_; clear n0_ n1_ n2_ n3_; clear hb hbox hg))
  (try simp only [Act.put, List.setIfInBounds_toArray, List.set_cons_zero, List.set_cons_succ])
  go_cut [15] (fun v15 wc => ∃ (kq : Nat) (x15_2 : Bool), v15 = .bool x15_2 ∧ Aside0 (offers_Make.j0 kq l0 x15_2 a1_0 a1_1 a1_2 a1_3 = some (r1, r2)) ∧ Aside0 (kq ≤ k) ∧ Aside0 (wc.heap[gb129]? = some (.cells #[.int .i64 a1_0, .int .i64 a1_1, .int .i64 a1_2, .int .i64 a1_3] 26 (0, 0))) ∧ Aside0 (Below w.heap.size w wc))
  case first =>
    have H := HC3.out
    clear HC3
    replace H := Option.bind_eq_some_iff.mp H
    obtain ⟨t130, A50, H⟩ := H
    replace H : (if t130 = 0 then ((offers_fits.f a1_0 a1_1 a1_2 a1_3).bind fun t131 => (offers_Make.j0 k l0 (!t131) a1_0 a1_1 a1_2 a1_3)) else (offers_Make.j0 k l0 true a1_0 a1_1 a1_2 a1_3)) = some (r1, r2) := H
    have A5 := Aside0.mk A50
    clear A50
    by_cases c6 : t130 = 0
    · rw [if_pos c6] at H
      have c6b0 : (t130 == 0) = true := beq_iff_eq.mpr c6
      have c6b1 : (t130 != 0) = false := bne_eq_false_iff_eq.mpr c6
      clear c6
      (first | rw [c6b0] | rw [c6b1] | (simp only [i64_w, i32_w]; rw [c6b0]) | skip)
      replace H := Option.bind_eq_some_iff.mp H
      obtain ⟨t131, A70, H⟩ := H
      replace H : (offers_Make.j0 k l0 (!t131) a1_0 a1_1 a1_2 a1_3) = some (r1, r2) := H
      have A7 := Aside0.mk A70
      clear A70
      have H' := Aside0.mk H
      clear H
      go_wp2_with (first | ((with_reducible refine gate_callee (f := 14) rfl ?_); refine goesL_ (some 9) rfl rfl Try.func14 (by kernel_rfl) rfl #[.slice A0 l0.length c0] rfl (by (try simp only [List.map_toArray, List.map_cons, List.map_nil]); first | done | rfl | (simp only [List.length_drop, List.length_take]; rfl)) ?_; (with_reducible refine (offers_Check.calls k _ _ l0 t130 _ ?side1 ?side2 A5.out).mono ?_); (case side1 => repeat (first | exact (Kd.C_below HR0.out HB.out) | (with_reducible refine Kd.C_alloc ?_ _) | (with_reducible refine Kd.C_drewN ?_ _) | (with_reducible refine Kd.C_drew ?_))); (case side2 => exact HC0.out); rintro e w8 ⟨rfl, hb⟩; refine ⟨_, rfl, ?_⟩; have n0_ := Aside0.mk (blk_below (g := gb129) (o := .cells #[.int .i64 a1_0, .int .i64 a1_1, .int .i64 a1_2, .int .i64 a1_3] 26 (0, 0)) (by (with_reducible repeat (first | refine blk_drewN ?_ _ | refine blk_drew ?_ | refine blk_alloc ?_ _)); exact BK129.out) hb); have n1_ := Aside0.mk (below_step (by repeat (first | (with_reducible first | exact HB.out | apply below_alloc | apply pw_below_drewN | apply below_drew1 | refine below_set ?_ GE129.out) | exact HB.out)) hb); clear BK129; clear HB; have BK129 := n0_; have HB := n1_; clear n0_ n1_; (try clear hb); (try clear hb2); (try clear hk); (try clear hi); have hcz9_0 : w8.cell? ⟨gb129, 0, none⟩ = some (.int .i64 a1_0) := (blk_cell BK129.out 0).trans rfl; have hcz9_1 : w8.cell? ⟨gb129, 1, none⟩ = some (.int .i64 a1_1) := (blk_cell BK129.out 1).trans rfl; have hcz9_2 : w8.cell? ⟨gb129, 2, none⟩ = some (.int .i64 a1_2) := (blk_cell BK129.out 2).trans rfl; have hcz9_3 : w8.cell? ⟨gb129, 3, none⟩ = some (.int .i64 a1_3) := (blk_cell BK129.out 3).trans rfl; have hfz9_0 := blk_frozen BK129.out 0; have hfz9_1 := blk_frozen BK129.out 1; have hfz9_2 := blk_frozen BK129.out 2; have hfz9_3 := blk_frozen BK129.out 3) | (go_at_call 23; (with_reducible refine (offers_fits.calls a1_0 a1_1 a1_2 a1_3 t131 _ A7.out).mono ?_); rintro e w10 ⟨rfl, hb⟩; have n0_ := Aside0.mk (blk_below (g := gb129) (o := .cells #[.int .i64 a1_0, .int .i64 a1_1, .int .i64 a1_2, .int .i64 a1_3] 26 (0, 0)) (by (with_reducible repeat (first | refine blk_drewN ?_ _ | refine blk_drew ?_ | refine blk_alloc ?_ _)); exact BK129.out) hb); have n1_ := Aside0.mk (below_step (by repeat (first | (with_reducible first | exact HB.out | apply below_alloc | apply pw_below_drewN | apply below_drew1 | refine below_set ?_ GE129.out) | exact HB.out)) hb); clear BK129; clear HB; have BK129 := n0_; have HB := n1_; clear n0_ n1_; (try clear hb); (try clear hb2); (try clear hk); (try clear hi)))
      go_meet
      case rel => exact ⟨_, (!t131), (by first | rfl | (simp; done) | (simp [*]; done)), H', ⟨by first | omega | exact Nat.le_refl _⟩, ⟨by (with_reducible repeat (first | refine blk_drewN ?_ _ | refine blk_drew ?_ | refine blk_alloc ?_ _)); exact BK129.out⟩, ⟨by repeat (first | (with_reducible first | exact HB.out | apply below_alloc | apply pw_below_drewN | apply below_drew1 | refine below_set ?_ GE129.out) | exact HB.out)⟩⟩
    · rw [if_neg c6] at H
      have c6b0 : (t130 == 0) = false := beq_eq_false_iff_ne.mpr c6
      have c6b1 : (t130 != 0) = true := bne_iff_ne.mpr c6
      (first | rw [c6b0] | rw [c6b1] | (simp only [i64_w, i32_w]; rw [c6b0]) | skip)
      have H' := Aside0.mk H
      clear H
      go_wp2_with (first | ((with_reducible refine gate_callee (f := 14) rfl ?_); refine goesL_ (some 9) rfl rfl Try.func14 (by kernel_rfl) rfl #[.slice A0 l0.length c0] rfl (by (try simp only [List.map_toArray, List.map_cons, List.map_nil]); first | done | rfl | (simp only [List.length_drop, List.length_take]; rfl)) ?_; (with_reducible refine (offers_Check.calls k _ _ l0 t130 _ ?side1 ?side2 A5.out).mono ?_); (case side1 => repeat (first | exact (Kd.C_below HR0.out HB.out) | (with_reducible refine Kd.C_alloc ?_ _) | (with_reducible refine Kd.C_drewN ?_ _) | (with_reducible refine Kd.C_drew ?_))); (case side2 => exact HC0.out); rintro e w11 ⟨rfl, hb⟩; refine ⟨_, rfl, ?_⟩; have n0_ := Aside0.mk (blk_below (g := gb129) (o := .cells #[.int .i64 a1_0, .int .i64 a1_1, .int .i64 a1_2, .int .i64 a1_3] 26 (0, 0)) (by (with_reducible repeat (first | refine blk_drewN ?_ _ | refine blk_drew ?_ | refine blk_alloc ?_ _)); exact BK129.out) hb); have n1_ := Aside0.mk (below_step (by repeat (first | (with_reducible first | exact HB.out | apply below_alloc | apply pw_below_drewN | apply below_drew1 | refine below_set ?_ GE129.out) | exact HB.out)) hb); clear BK129; clear HB; have BK129 := n0_; have HB := n1_; clear n0_ n1_; (try clear hb); (try clear hb2); (try clear hk); (try clear hi)))
      go_meet
      case rel => exact ⟨_, (true), (by first | rfl | (simp; done) | (simp [*]; done)), H', ⟨by first | omega | exact Nat.le_refl _⟩, ⟨by (with_reducible repeat (first | refine blk_drewN ?_ _ | refine blk_drew ?_ | refine blk_alloc ?_ _)); exact BK129.out⟩, ⟨by repeat (first | (with_reducible first | exact HB.out | apply below_alloc | apply pw_below_drewN | apply below_drew1 | refine below_set ?_ GE129.out) | exact HB.out)⟩⟩
  case rest =>
    clear HC3
    try clear c1
    try clear p2
    try clear c6
    try clear c6b0
    try clear c6b1
    try clear hcz9_0
    try clear hcz9_1
    try clear hcz9_2
    try clear hcz9_3
    try clear hfz9_0
    try clear hfz9_1
    try clear hfz9_2
    try clear hfz9_3
    obtain ⟨kq, x15_2, rfl, HA, HJ2, BK129, HB⟩ := hcut
    cases kq with
    | zero => exact absurd HA.out (by simp [offers_Make.j0])
    | succ kj2 =>
      have H := HA.out
      clear HA
      simp only [offers_Make.j0] at H
      by_cases c12 : x15_2 = true
      · subst c12
        have H1 : (some (([] : List (S26)), 310)) = some (r1, r2) := by rw [if_pos rfl] at H; exact H
        clear H
        have H := H1
        clear H1
        simp only [Option.some.injEq, Prod.mk.injEq] at H
        obtain ⟨rfl, rfl⟩ := H
        go_wp2
        go_ret2
        exact ⟨_, by first | rfl | (simp [errW_none, errW_some] <;> rfl) | (simp [*, errW_none, errW_some] <;> rfl), by first | exact Kd.R_nil _ _ _ _ _ | exact Kd.N_nil _ _ _ _ _ | exact Kd.V_nil _ _ _ _ _ | exact Kd.Q_nil _ _ _ _ _ | exact Kd.S_nil _ _ _ _ _, by repeat (first | (with_reducible first | exact HB.out | apply below_alloc | apply pw_below_drewN | apply below_drew1 | refine below_set ?_ GE129.out) | exact HB.out)⟩
      · replace c12 := Bool.eq_false_iff.mpr c12
        subst c12
        have H1 : ((api_Offer_24.f kj2 l0 a1_0 a1_1 a1_2 a1_3 ()).bind fun bt132 => (if bt132.2 = true then (some (([] : List (S26)), 310)) else ((api_Offer_27.f l0).bind fun t134 => ((api_Offer_26.f t134 bt132.1 (([(⟨a1_0, (⟨a1_1, a1_2⟩ : S24), a1_3⟩ : S26)] : List (S26)))).bind fun t140 => (some (t140, 0)))))) = some (r1, r2) := by rw [if_neg (show ¬ (false = true) by decide)] at H; exact H
        clear H
        have H := H1
        clear H1
        replace H := Option.bind_eq_some_iff.mp H
        obtain ⟨⟨t132, t133⟩, A130, H⟩ := H
        replace H : (if t133 = true then (some (([] : List (S26)), 310)) else ((api_Offer_27.f l0).bind fun t134 => ((api_Offer_26.f t134 t132 (([(⟨a1_0, (⟨a1_1, a1_2⟩ : S24), a1_3⟩ : S26)] : List (S26)))).bind fun t140 => (some (t140, 0))))) = some (r1, r2) := H
        have A13 := Aside0.mk A130
        clear A130
        by_cases c14 : t133 = true
        · subst c14
          have H1 : (some (([] : List (S26)), 310)) = some (r1, r2) := by rw [if_pos rfl] at H; exact H
          clear H
          have H := H1
          clear H1
          simp only [Option.some.injEq, Prod.mk.injEq] at H
          obtain ⟨rfl, rfl⟩ := H
          have hcz15_0 : wc.cell? ⟨gb129, 0, none⟩ = some (.int .i64 a1_0) := (blk_cell BK129.out 0).trans rfl
          have hcz15_1 : wc.cell? ⟨gb129, 1, none⟩ = some (.int .i64 a1_1) := (blk_cell BK129.out 1).trans rfl
          have hcz15_2 : wc.cell? ⟨gb129, 2, none⟩ = some (.int .i64 a1_2) := (blk_cell BK129.out 2).trans rfl
          have hcz15_3 : wc.cell? ⟨gb129, 3, none⟩ = some (.int .i64 a1_3) := (blk_cell BK129.out 3).trans rfl
          have hfz15_0 := blk_frozen BK129.out 0
          have hfz15_1 := blk_frozen BK129.out 1
          have hfz15_2 := blk_frozen BK129.out 2
          have hfz15_3 := blk_frozen BK129.out 3
          go_wp2_with (first | ((with_reducible refine gate_callee (f := 24) rfl ?_); refine goesL_ (some 19) rfl rfl Try.func24 (by kernel_rfl) rfl #[.slice A0 l0.length c0, .agg #[.int .i64 a1_0, .int .i64 a1_1, .int .i64 a1_2, .int .i64 a1_3], .func (.func 25) #[] #[]] rfl (by (try simp only [List.map_toArray, List.map_cons, List.map_nil]); first | done | rfl | (simp only [List.length_drop, List.length_take]; rfl)) ?_; (with_reducible refine (api_Offer_24.calls kj2 _ _ l0 a1_0 a1_1 a1_2 a1_3 () t132 true _ ?side1 ?side2 A13.out).mono ?_); (case side1 => repeat (first | exact (Kd.C_below HR0.out HB.out) | (with_reducible refine Kd.C_alloc ?_ _) | (with_reducible refine Kd.C_drewN ?_ _) | (with_reducible refine Kd.C_drew ?_))); (case side2 => exact HC0.out); rintro e w16 ⟨rfl, hb⟩; refine ⟨_, rfl, ?_⟩; have n0_ := Aside0.mk (blk_below (g := gb129) (o := .cells #[.int .i64 a1_0, .int .i64 a1_1, .int .i64 a1_2, .int .i64 a1_3] 26 (0, 0)) (by (with_reducible repeat (first | refine blk_drewN ?_ _ | refine blk_drew ?_ | refine blk_alloc ?_ _)); exact BK129.out) hb); have n1_ := Aside0.mk (below_step (by repeat (first | (with_reducible first | exact HB.out | apply below_alloc | apply pw_below_drewN | apply below_drew1 | refine below_set ?_ GE129.out) | exact HB.out)) hb); clear BK129; clear HB; have BK129 := n0_; have HB := n1_; clear n0_ n1_; (try clear hb); (try clear hb2); (try clear hk); (try clear hi)))
          go_ret2
          exact ⟨_, by first | rfl | (simp [errW_none, errW_some] <;> rfl) | (simp [*, errW_none, errW_some] <;> rfl), by first | exact Kd.R_nil _ _ _ _ _ | exact Kd.N_nil _ _ _ _ _ | exact Kd.V_nil _ _ _ _ _ | exact Kd.Q_nil _ _ _ _ _ | exact Kd.S_nil _ _ _ _ _, by repeat (first | (with_reducible first | exact HB.out | apply below_alloc | apply pw_below_drewN | apply below_drew1 | refine below_set ?_ GE129.out) | exact HB.out)⟩
        · replace c14 := Bool.eq_false_iff.mpr c14
          subst c14
          have H1 : ((api_Offer_27.f l0).bind fun t134 => ((api_Offer_26.f t134 t132 (([(⟨a1_0, (⟨a1_1, a1_2⟩ : S24), a1_3⟩ : S26)] : List (S26)))).bind fun t140 => (some (t140, 0)))) = some (r1, r2) := by rw [if_neg (show ¬ (false = true) by decide)] at H; exact H
          clear H
          have H := H1
          clear H1
          replace H := Option.bind_eq_some_iff.mp H
          obtain ⟨t134, A170, H⟩ := H
          replace H : ((api_Offer_26.f t134 t132 (([(⟨a1_0, (⟨a1_1, a1_2⟩ : S24), a1_3⟩ : S26)] : List (S26)))).bind fun t140 => (some (t140, 0))) = some (r1, r2) := H
          have A17 := Aside0.mk A170
          clear A170
          obtain ⟨y137, hy137⟩ : ∃ y_ : List (S26), y_ = (([(⟨a1_0, (⟨a1_1, a1_2⟩ : S24), a1_3⟩ : S26)] : List (S26))) := ⟨_, rfl⟩
          replace H : ((api_Offer_26.f t134 t132 y137).bind fun t140 => (some (t140, 0))) = some (r1, r2) := by first | (rw [hy137]; with_reducible exact H) | (have H2_ := (Option.bind_some _ _).symm.trans H; rw [hy137]; with_reducible exact H2_) | (have H2_ := (Option.bind_some _ _).symm.trans H; with_reducible exact H2_) | with_reducible exact H | (rw [hy137]; exact H) | exact H
          have Ny137 := Aside0.mk hy137
          clear hy137
          replace H := Option.bind_eq_some_iff.mp H
          obtain ⟨t140, A180, H⟩ := H
          replace H : (some (t140, 0)) = some (r1, r2) := H
          have A18 := Aside0.mk A180
          clear A180
          simp only [Option.some.injEq, Prod.mk.injEq] at H
          obtain ⟨rfl, rfl⟩ := H
          have hcz19_0 : wc.cell? ⟨gb129, 0, none⟩ = some (.int .i64 a1_0) := (blk_cell BK129.out 0).trans rfl
          have hcz19_1 : wc.cell? ⟨gb129, 1, none⟩ = some (.int .i64 a1_1) := (blk_cell BK129.out 1).trans rfl
          have hcz19_2 : wc.cell? ⟨gb129, 2, none⟩ = some (.int .i64 a1_2) := (blk_cell BK129.out 2).trans rfl
          have hcz19_3 : wc.cell? ⟨gb129, 3, none⟩ = some (.int .i64 a1_3) := (blk_cell BK129.out 3).trans rfl
          have hfz19_0 := blk_frozen BK129.out 0
          have hfz19_1 := blk_frozen BK129.out 1
          have hfz19_2 := blk_frozen BK129.out 2
          have hfz19_3 := blk_frozen BK129.out 3
          try go_wp2_with (first | ((with_reducible refine gate_callee (f := 24) rfl ?_); refine goesL_ (some 19) rfl rfl Try.func24 (by kernel_rfl) rfl #[.slice A0 l0.length c0, .agg #[.int .i64 a1_0, .int .i64 a1_1, .int .i64 a1_2, .int .i64 a1_3], .func (.func 25) #[] #[]] rfl (by (try simp only [List.map_toArray, List.map_cons, List.map_nil]); first | done | rfl | (simp only [List.length_drop, List.length_take]; rfl)) ?_; (with_reducible refine (api_Offer_24.calls kj2 _ _ l0 a1_0 a1_1 a1_2 a1_3 () t132 false _ ?side1 ?side2 A13.out).mono ?_); (case side1 => repeat (first | exact (Kd.C_below HR0.out HB.out) | (with_reducible refine Kd.C_alloc ?_ _) | (with_reducible refine Kd.C_drewN ?_ _) | (with_reducible refine Kd.C_drew ?_))); (case side2 => exact HC0.out); rintro e w20 ⟨rfl, hb⟩; refine ⟨_, rfl, ?_⟩; have n0_ := Aside0.mk (blk_below (g := gb129) (o := .cells #[.int .i64 a1_0, .int .i64 a1_1, .int .i64 a1_2, .int .i64 a1_3] 26 (0, 0)) (by (with_reducible repeat (first | refine blk_drewN ?_ _ | refine blk_drew ?_ | refine blk_alloc ?_ _)); exact BK129.out) hb); have n1_ := Aside0.mk (below_step (by repeat (first | (with_reducible first | exact HB.out | apply below_alloc | apply pw_below_drewN | apply below_drew1 | refine below_set ?_ GE129.out) | exact HB.out)) hb); clear BK129; clear HB; have BK129 := n0_; have HB := n1_; clear n0_ n1_; (try clear hb); (try clear hb2); (try clear hk); (try clear hi)))
          have n0_ := Aside0.mk (blk_drew BK129.out)
          have n1_ := Aside0.mk (below_drew1 HB.out)
          clear BK129
          clear HB
          have BK129 := n0_
          have HB := n1_
          clear n0_ n1_
          refine start_ (n := 8) (S := fun w' => w'.cell? ⟨gb129, 0, none⟩ = some (.int .i64 a1_0) ∧ w'.cell? ⟨gb129, 1, none⟩ = some (.int .i64 a1_1) ∧ w'.cell? ⟨gb129, 2, none⟩ = some (.int .i64 a1_2) ∧ w'.cell? ⟨gb129, 3, none⟩ = some (.int .i64 a1_3)) (ds := []) #[false, false, false, false, false, false, false, false] (by kernel_rfl) rfl rfl ⟨(blk_cell BK129.out 0).trans rfl, (blk_cell BK129.out 1).trans rfl, (blk_cell BK129.out 2).trans rfl, (blk_cell BK129.out 3).trans rfl⟩ (fun hHeld => ?_); refine with_tabW offers_Make.tab6 offers_Make.bits6 (fun HT_ HW_ => ?_)
          generalize w20.drew = w21 at BK129 HB hHeld ⊢
          refine pure_ (i := 0) (N := some 23) (v := ?_) (a' := ?_) #[true, false, false, false, false, false, false, false] rfl rfl (any_of HT_.out (by kernel_rfl)) (fun _ _ _ h => h) (Or.inl ⟨by rfl, ?_⟩) ?_ ?_
          rotate_left
          · intro w'
            go_simp
            with_reducible rfl
          rotate_left
          · simp only [Act.put, List.setIfInBounds_toArray, List.set_cons_zero, List.set_cons_succ, i64_w, i32_w]
            rfl
          refine pure_ (i := 2) (N := some 25) (v := ?_) (a' := ?_) #[true, false, true, false, false, false, false, false] rfl rfl (any_of HT_.out (by kernel_rfl)) (fun _ _ _ h => h) (Or.inl ⟨by rfl, ?_⟩) ?_ ?_
          rotate_left
          · intro w'
            go_simp
            with_reducible rfl
          rotate_left
          · simp only [Act.put, List.setIfInBounds_toArray, List.set_cons_zero, List.set_cons_succ, i64_w, i32_w]
            rfl
          refine take_ (i := 3) (N := some 26) (v := ?_) (a' := ?_) #[true, false, true, true, false, false, false, false] rfl rfl (take_ofW HT_.out HW_.out (by kernel_rfl)) (fun _ _ _ h => h) (Or.inl ⟨by rfl, ?_⟩) hHeld ?_ ?_
          rotate_left
          · rintro w' ⟨s0, s1, s2, s3⟩
            go_simp
            with_reducible rfl
          rotate_left
          · simp only [Act.put, List.setIfInBounds_toArray, List.set_cons_zero, List.set_cons_succ, i64_w, i32_w]
            rfl
          refine join_ (σ := Value × Value) 3 #[true, true, true, true, true, false, false, false] (fun s_ => [(24, s_.1), (27, s_.2)]) (fun s_ w' => (w'.cell? ⟨gb129, 0, none⟩ = some (.int .i64 a1_0) ∧ w'.cell? ⟨gb129, 1, none⟩ = some (.int .i64 a1_1) ∧ w'.cell? ⟨gb129, 2, none⟩ = some (.int .i64 a1_2) ∧ w'.cell? ⟨gb129, 3, none⟩ = some (.int .i64 a1_3)) ∧ (Kd.R k26 26 w' w.heap.size (fun k_ => some k_ ≠ (s_.2 : Value).ownBlock ∧ k_ ≠ gb129) s_.1 t134) ∧ (Kd.R k26 26 w' w.heap.size (fun k_ => some k_ ≠ (s_.1 : Value).ownBlock ∧ k_ ≠ gb129) s_.2 y137) ∧ (w'.heap[gb129]? = some (.cells #[.int .i64 a1_0, .int .i64 a1_1, .int .i64 a1_2, .int .i64 a1_3] 26 (0, 0))) ∧ (Below w.heap.size w w')) ?_ ?_
          rotate_left
          · intro hCont
            refine two_ (i := 1) (j := 4) (Ni := some 24) (Nj := some 27) #[true, true, true, true, false, false, false, false] #[true, false, true, true, true, false, false, false] rfl rfl rfl rfl (two_of HT_.out (by kernel_rfl)) (by decide) (by decide) (fun K hK => ?_) (fun K hK => ?_)
            · skip
              refine goes_ Try.func27 (by kernel_rfl) rfl #[.slice A0 l0.length c0] (by rfl) rfl rfl (by (try simp only [List.map_toArray, List.map_cons, List.map_nil]); first | done | rfl | (simp only [List.length_drop, List.length_take]; rfl)) ?_
              with_reducible refine (api_Offer_27.calls _ _ l0 t134 _ ?side1 ?side2 A17.out).mono ?_
              (case side1 => repeat (first | exact (Kd.C_below HR0.out HB.out) | (with_reducible refine Kd.C_alloc ?_ _) | (with_reducible refine Kd.C_drewN ?_ _) | (with_reducible refine Kd.C_drew ?_)))
              (case side2 => exact HC0.out)
              rintro e w22 ⟨v135, rfl, ho0, hb⟩
              refine ⟨_, rfl, ?_⟩
              have n0_ := Aside0.mk (Kd.R_lower (Kd.R_newB ho0 (g := gb129) (o := .cells #[.int .i64 a1_0, .int .i64 a1_1, .int .i64 a1_2, .int .i64 a1_3] 26 (0, 0)) (by (with_reducible repeat (first | refine blk_drewN ?_ _ | refine blk_drew ?_ | refine blk_alloc ?_ _)); exact BK129.out)) (below_size (by repeat (first | (with_reducible first | exact HB.out | apply below_alloc | apply pw_below_drewN | apply below_drew1 | refine below_set ?_ GE129.out) | exact HB.out))))
              have n1_ := Aside0.mk (blk_below (g := gb129) (o := .cells #[.int .i64 a1_0, .int .i64 a1_1, .int .i64 a1_2, .int .i64 a1_3] 26 (0, 0)) (by (with_reducible repeat (first | refine blk_drewN ?_ _ | refine blk_drew ?_ | refine blk_alloc ?_ _)); exact BK129.out) hb)
              have n2_ := Aside0.mk (below_step (by repeat (first | (with_reducible first | exact HB.out | apply below_alloc | apply pw_below_drewN | apply below_drew1 | refine below_set ?_ GE129.out) | exact HB.out)) hb)
              clear BK129
              clear HB
              have HO136 := n0_
              have BK129 := n1_
              have HB := n2_
              clear n0_ n1_ n2_
              (try clear hb)
              (try clear hb2)
              (try clear hk)
              (try clear hi)
              (try clear ho0)
              refine hK.out _ _ ⟨(blk_cell BK129.out 0).trans rfl, (blk_cell BK129.out 1).trans rfl, (blk_cell BK129.out 2).trans rfl, (blk_cell BK129.out 3).trans rfl⟩ (fun hHeld => ?_)
              clear hK K
              refine norm_ (a' := ?_) ?_ ?_
              rotate_left
              · show Act.put _ (some 24) _ = _
                simp only [Act.put, List.setIfInBounds_toArray, List.set_cons_zero, List.set_cons_succ, i64_w, i32_w]
                rfl
              refine one_ (i := 4) (N := some 27) #[true, true, true, true, true, false, false, false] rfl rfl (one_of HT_.out (by kernel_rfl)) (by decide) (fun K hK => ?_)
              refine Kd.R_lit_step k26 _ 26 ?hg (N := 27) ?hd (xs := ([(⟨a1_0, (⟨a1_1, a1_2⟩ : S24), a1_3⟩ : S26)] : List (S26))) (inner := [.int .i64 a1_0, .int .i64 a1_1, .int .i64 a1_2, .int .i64 a1_3]) (ok := fun _ => True) (okp := fun _ => True) ?hr ?hp (fun _ hk => hk) trivial (Below.refl _ _) (Nat.le_refl _) (by simp) ?_; (case hd => rfl); (case hg => rfl); (case hr => first | (go_simp; done) | (go_simp; rfl)); (case hp => exact (Reps.c4 (show Kd.M k26 _ _ _ (⟨a1_0, (⟨a1_1, a1_2⟩ : S24), a1_3⟩ : S26) [.int .i64 a1_0, .int .i64 a1_1, .int .i64 a1_2, .int .i64 a1_3] from (k26_mkM _ _ _ (⟨a1_0, (⟨a1_1, a1_2⟩ : S24), a1_3⟩ : S26) )) (Reps.none _ _)))
              intro v138 w23 ho24 hb hg_ hnew_
              clear hg_ hnew_
              (first | rw [← Ny137.out] at ho24 | (simp only [Int.reduceToNat] at ho24; rw [← Ny137.out] at ho24))
              have n0_ := Aside0.mk (Kd.R_elder' (by (with_reducible repeat (first | apply Kd.R_alloc | apply Kd.R_drewN | apply Kd.R_drew)); exact HO136.out) (Kd.R_base ho24) hb)
              have n1_ := Aside0.mk (Kd.R_lower (Kd.R_newB (Kd.R_new' ho24 (Kd.R_lt (by (with_reducible repeat (first | apply Kd.R_alloc | apply Kd.R_drewN | apply Kd.R_drew)); exact HO136.out))) (g := gb129) (o := .cells #[.int .i64 a1_0, .int .i64 a1_1, .int .i64 a1_2, .int .i64 a1_3] 26 (0, 0)) (by (with_reducible repeat (first | refine blk_drewN ?_ _ | refine blk_drew ?_ | refine blk_alloc ?_ _)); exact BK129.out)) (below_size (by repeat (first | (with_reducible first | exact HB.out | apply below_alloc | apply pw_below_drewN | apply below_drew1 | refine below_set ?_ GE129.out) | exact HB.out))))
              have n2_ := Aside0.mk (blk_below (g := gb129) (o := .cells #[.int .i64 a1_0, .int .i64 a1_1, .int .i64 a1_2, .int .i64 a1_3] 26 (0, 0)) (by (with_reducible repeat (first | refine blk_drewN ?_ _ | refine blk_drew ?_ | refine blk_alloc ?_ _)); exact BK129.out) hb)
              have n3_ := Aside0.mk (below_step (by repeat (first | (with_reducible first | exact HB.out | apply below_alloc | apply pw_below_drewN | apply below_drew1 | refine below_set ?_ GE129.out) | exact HB.out)) hb)
              clear HO136
              clear BK129
              clear HB
              have HO136 := n0_
              have HO139 := n1_
              have BK129 := n2_
              have HB := n3_
              clear n0_ n1_ n2_ n3_
              clear hb ho24
              refine hK.out _ _ ⟨(blk_cell BK129.out 0).trans rfl, (blk_cell BK129.out 1).trans rfl, (blk_cell BK129.out 2).trans rfl, (blk_cell BK129.out 3).trans rfl⟩ (fun hHeld => ?_)
              clear hK K
              refine norm_ (a' := ?_) ?_ ?_
              rotate_left
              · show Act.put _ (some 27) _ = _
                simp only [Act.put, List.setIfInBounds_toArray, List.set_cons_zero, List.set_cons_succ, i64_w, i32_w]
                rfl
              exact norm_ (by simp only [putAll, Act.put, List.setIfInBounds_toArray, List.set_cons_zero, List.set_cons_succ]) (hCont (v135, v138) _ ⟨hHeld, (by (with_reducible repeat (first | apply Kd.R_alloc | apply Kd.R_drewN | apply Kd.R_drew)); exact Kd.R_mono HO136.out (fun _ hk => ⟨hk.2, hk.1.2⟩)), (by (with_reducible repeat (first | apply Kd.R_alloc | apply Kd.R_drewN | apply Kd.R_drew)); exact Kd.R_mono HO139.out (fun _ hk => ⟨hk.1.2, hk.2⟩)), (by (with_reducible repeat (first | refine blk_drewN ?_ _ | refine blk_drew ?_ | refine blk_alloc ?_ _)); exact BK129.out), (by repeat (first | (with_reducible first | exact HB.out | apply below_alloc | apply pw_below_drewN | apply below_drew1 | refine below_set ?_ GE129.out) | exact HB.out))⟩)
            · skip
              refine Kd.R_lit_step k26 _ 26 ?hg (N := 27) ?hd (xs := ([(⟨a1_0, (⟨a1_1, a1_2⟩ : S24), a1_3⟩ : S26)] : List (S26))) (inner := [.int .i64 a1_0, .int .i64 a1_1, .int .i64 a1_2, .int .i64 a1_3]) (ok := fun _ => True) (okp := fun _ => True) ?hr ?hp (fun _ hk => hk) trivial (Below.refl _ _) (Nat.le_refl _) (by simp) ?_; (case hd => rfl); (case hg => rfl); (case hr => first | (go_simp; done) | (go_simp; rfl)); (case hp => exact (Reps.c4 (show Kd.M k26 _ _ _ (⟨a1_0, (⟨a1_1, a1_2⟩ : S24), a1_3⟩ : S26) [.int .i64 a1_0, .int .i64 a1_1, .int .i64 a1_2, .int .i64 a1_3] from (k26_mkM _ _ _ (⟨a1_0, (⟨a1_1, a1_2⟩ : S24), a1_3⟩ : S26) )) (Reps.none _ _)))
              intro v138 w22 ho23 hb hg_ hnew_
              clear hg_ hnew_
              (first | rw [← Ny137.out] at ho23 | (simp only [Int.reduceToNat] at ho23; rw [← Ny137.out] at ho23))
              have n0_ := Aside0.mk (Kd.R_lower (Kd.R_newB ho23 (g := gb129) (o := .cells #[.int .i64 a1_0, .int .i64 a1_1, .int .i64 a1_2, .int .i64 a1_3] 26 (0, 0)) (by (with_reducible repeat (first | refine blk_drewN ?_ _ | refine blk_drew ?_ | refine blk_alloc ?_ _)); exact BK129.out)) (below_size (by repeat (first | (with_reducible first | exact HB.out | apply below_alloc | apply pw_below_drewN | apply below_drew1 | refine below_set ?_ GE129.out) | exact HB.out))))
              have n1_ := Aside0.mk (blk_below (g := gb129) (o := .cells #[.int .i64 a1_0, .int .i64 a1_1, .int .i64 a1_2, .int .i64 a1_3] 26 (0, 0)) (by (with_reducible repeat (first | refine blk_drewN ?_ _ | refine blk_drew ?_ | refine blk_alloc ?_ _)); exact BK129.out) hb)
              have n2_ := Aside0.mk (below_step (by repeat (first | (with_reducible first | exact HB.out | apply below_alloc | apply pw_below_drewN | apply below_drew1 | refine below_set ?_ GE129.out) | exact HB.out)) hb)
              clear BK129
              clear HB
              have HO139 := n0_
              have BK129 := n1_
              have HB := n2_
              clear n0_ n1_ n2_
              clear hb ho23
              refine hK.out _ _ ⟨(blk_cell BK129.out 0).trans rfl, (blk_cell BK129.out 1).trans rfl, (blk_cell BK129.out 2).trans rfl, (blk_cell BK129.out 3).trans rfl⟩ (fun hHeld => ?_)
              clear hK K
              refine norm_ (a' := ?_) ?_ ?_
              rotate_left
              · show Act.put _ (some 27) _ = _
                simp only [Act.put, List.setIfInBounds_toArray, List.set_cons_zero, List.set_cons_succ, i64_w, i32_w]
                rfl
              refine one_ (i := 1) (N := some 24) #[true, true, true, true, true, false, false, false] rfl rfl (one_of HT_.out (by kernel_rfl)) (by decide) (fun K hK => ?_)
              refine goes_ Try.func27 (by kernel_rfl) rfl #[.slice A0 l0.length c0] (by rfl) rfl rfl (by (try simp only [List.map_toArray, List.map_cons, List.map_nil]); first | done | rfl | (simp only [List.length_drop, List.length_take]; rfl)) ?_
              with_reducible refine (api_Offer_27.calls _ _ l0 t134 _ ?side1 ?side2 A17.out).mono ?_
              (case side1 => repeat (first | exact (Kd.C_below HR0.out HB.out) | (with_reducible refine Kd.C_alloc ?_ _) | (with_reducible refine Kd.C_drewN ?_ _) | (with_reducible refine Kd.C_drew ?_)))
              (case side2 => exact HC0.out)
              rintro e w24 ⟨v135, rfl, ho0, hb⟩
              refine ⟨_, rfl, ?_⟩
              have n0_ := Aside0.mk (Kd.R_elder' (by (with_reducible repeat (first | apply Kd.R_alloc | apply Kd.R_drewN | apply Kd.R_drew)); exact HO139.out) (Kd.R_base ho0) hb)
              have n1_ := Aside0.mk (Kd.R_lower (Kd.R_newB (Kd.R_new' ho0 (Kd.R_lt (by (with_reducible repeat (first | apply Kd.R_alloc | apply Kd.R_drewN | apply Kd.R_drew)); exact HO139.out))) (g := gb129) (o := .cells #[.int .i64 a1_0, .int .i64 a1_1, .int .i64 a1_2, .int .i64 a1_3] 26 (0, 0)) (by (with_reducible repeat (first | refine blk_drewN ?_ _ | refine blk_drew ?_ | refine blk_alloc ?_ _)); exact BK129.out)) (below_size (by repeat (first | (with_reducible first | exact HB.out | apply below_alloc | apply pw_below_drewN | apply below_drew1 | refine below_set ?_ GE129.out) | exact HB.out))))
              have n2_ := Aside0.mk (blk_below (g := gb129) (o := .cells #[.int .i64 a1_0, .int .i64 a1_1, .int .i64 a1_2, .int .i64 a1_3] 26 (0, 0)) (by (with_reducible repeat (first | refine blk_drewN ?_ _ | refine blk_drew ?_ | refine blk_alloc ?_ _)); exact BK129.out) hb)
              have n3_ := Aside0.mk (below_step (by repeat (first | (with_reducible first | exact HB.out | apply below_alloc | apply pw_below_drewN | apply below_drew1 | refine below_set ?_ GE129.out) | exact HB.out)) hb)
              clear HO139
              clear BK129
              clear HB
              have HO139 := n0_
              have HO136 := n1_
              have BK129 := n2_
              have HB := n3_
              clear n0_ n1_ n2_ n3_
              (try clear hb)
              (try clear hb2)
              (try clear hk)
              (try clear hi)
              (try clear ho0)
              refine hK.out _ _ ⟨(blk_cell BK129.out 0).trans rfl, (blk_cell BK129.out 1).trans rfl, (blk_cell BK129.out 2).trans rfl, (blk_cell BK129.out 3).trans rfl⟩ (fun hHeld => ?_)
              clear hK K
              refine norm_ (a' := ?_) ?_ ?_
              rotate_left
              · show Act.put _ (some 24) _ = _
                simp only [Act.put, List.setIfInBounds_toArray, List.set_cons_zero, List.set_cons_succ, i64_w, i32_w]
                rfl
              exact norm_ (by simp only [putAll, Act.put, List.setIfInBounds_toArray, List.set_cons_zero, List.set_cons_succ]) (hCont (v135, v138) _ ⟨hHeld, (by (with_reducible repeat (first | apply Kd.R_alloc | apply Kd.R_drewN | apply Kd.R_drew)); exact Kd.R_mono HO136.out (fun _ hk => ⟨hk.1.2, hk.2⟩)), (by (with_reducible repeat (first | apply Kd.R_alloc | apply Kd.R_drewN | apply Kd.R_drew)); exact Kd.R_mono HO139.out (fun _ hk => ⟨hk.2, hk.1.2⟩)), (by (with_reducible repeat (first | refine blk_drewN ?_ _ | refine blk_drew ?_ | refine blk_alloc ?_ _)); exact BK129.out), (by repeat (first | (with_reducible first | exact HB.out | apply below_alloc | apply pw_below_drewN | apply below_drew1 | refine below_set ?_ GE129.out) | exact HB.out))⟩)
          rintro ⟨v135, v138⟩ w25 ⟨hS_, h0_, h1_, h2_, h3_⟩
          have n0_ : Aside0 (Kd.R k26 26 w25 w.heap.size (fun k_ => some k_ ≠ (v138 : Value).ownBlock ∧ k_ ≠ gb129) v135 t134) := ⟨h0_⟩
          have n1_ : Aside0 (Kd.R k26 26 w25 w.heap.size (fun k_ => some k_ ≠ (v135 : Value).ownBlock ∧ k_ ≠ gb129) v138 y137) := ⟨h1_⟩
          have n2_ : Aside0 (w25.heap[gb129]? = some (.cells #[.int .i64 a1_0, .int .i64 a1_1, .int .i64 a1_2, .int .i64 a1_3] 26 (0, 0))) := ⟨h2_⟩
          have n3_ : Aside0 (Below w.heap.size w w25) := ⟨h3_⟩
          clear BK129
          clear HB
          clear h0_ h1_ h2_ h3_
          have HO136 := n0_
          have HO139 := n1_
          have BK129 := n2_
          have HB := n3_
          clear n0_ n1_ n2_ n3_
          have hHeld : w25.cell? ⟨gb129, 0, none⟩ = some (.int .i64 a1_0) ∧ w25.cell? ⟨gb129, 1, none⟩ = some (.int .i64 a1_1) ∧ w25.cell? ⟨gb129, 2, none⟩ = some (.int .i64 a1_2) ∧ w25.cell? ⟨gb129, 3, none⟩ = some (.int .i64 a1_3) := hS_
          obtain ⟨Ao26, co26, eo26⟩ := Kd.R_slice HO136.out
          (first | subst eo26 | (injection eo26 with f1_ f2_ f3_; have f4_ := f1_.symm; have f5_ := f3_.symm; clear f1_ f2_ f3_; subst f4_; subst f5_))
          obtain ⟨Ao27, co27, eo27⟩ := Kd.R_slice HO139.out
          (first | subst eo27 | (injection eo27 with f1_ f2_ f3_; have f4_ := f1_.symm; have f5_ := f3_.symm; clear f1_ f2_ f3_; subst f4_; subst f5_))
          refine norm_ (a' := ?_) ?_ ?_
          rotate_left
          · simp only [putAll, Act.put, List.setIfInBounds_toArray, List.set_cons_zero, List.set_cons_succ]
            rfl
          refine one_ (i := 5) (N := some 28) #[true, true, true, true, true, true, false, false] rfl rfl (one_of HT_.out (by kernel_rfl)) (by decide) (fun K hK => ?_)
          refine goes_ Try.func26 (by kernel_rfl) rfl #[.slice Ao26 t134.length co26, .int .i64 t132, .slice Ao27 y137.length co27] (by rfl) rfl rfl (by (try simp only [List.map_toArray, List.map_cons, List.map_nil]); first | done | rfl | (simp only [List.length_drop, List.length_take]; rfl)) ?_
          with_reducible refine (api_Offer_26.calls (fun k_ => some k_ = (.slice Ao26 t134.length co26 : Value).ownBlock) (.slice Ao26 t134.length co26) t134 t132 (fun k_ => some k_ = (.slice Ao27 y137.length co27 : Value).ownBlock) (.slice Ao27 y137.length co27) y137 t140 w _ ?side1 ?side2 ?side3 ?side4 ?side5 A18.out).mono ?_
          (case side1 => repeat (first | (with_reducible first | exact HB.out | apply below_alloc | apply pw_below_drewN | apply below_drew1 | refine below_set ?_ GE129.out) | exact HB.out))
          (case side2 => exact Kd.R_tight rfl HO136.out)
          (case side3 => exact fun k_ e_ => (HO136.out.1 k_ e_.symm).1)
          (case side4 => exact Kd.R_tight rfl HO139.out)
          (case side5 => exact fun k_ e_ => (HO139.out.1 k_ e_.symm).1)
          rintro e w28 ⟨v141, rfl, ho0, hb, hkp⟩
          refine ⟨_, rfl, ?_⟩
          have n0_ := Aside0.mk (blk_kept (by (with_reducible repeat (first | refine blk_drewN ?_ _ | refine blk_drew ?_ | refine blk_alloc ?_ _)); exact BK129.out) hkp (fun hs_ => Or.elim hs_ (fun e_ => (fun e_ => (Kd.R_away HO136.out (fun _ hk => hk.2)) e_) e_) (fun e_ => (fun e_ => (Kd.R_away HO139.out (fun _ hk => hk.2)) e_) e_)))
          have n1_ := Aside0.mk (Kd.R_mono (ok' := fun k_ => k_ ≠ gb129) ho0 (fun k_ hk_ => Or.elim hk_ (fun hs_ => Or.elim hs_ (fun hs_ => fun e_ => (Kd.R_away HO136.out (fun _ hk => hk.2)) (by rw [← e_]; exact hs_)) (fun hs_ => fun e_ => (Kd.R_away HO139.out (fun _ hk => hk.2)) (by rw [← e_]; exact hs_))) (fun hn_ => (Kd.freshB (g := gb129) (o := .cells #[.int .i64 a1_0, .int .i64 a1_1, .int .i64 a1_2, .int .i64 a1_3] 26 (0, 0)) (by (with_reducible repeat (first | refine blk_drewN ?_ _ | refine blk_drew ?_ | refine blk_alloc ?_ _)); exact BK129.out) k_ hn_))))
          have n2_ := Aside0.mk (hb)
          clear BK129
          clear HB
          clear HO136
          clear HO139
          have BK129 := n0_
          have HO142 := n1_
          have HB := n2_
          clear n0_ n1_ n2_
          (try clear hb)
          (try clear hkp)
          (try clear ho0)
          refine hK.out _ _ ⟨(blk_cell BK129.out 0).trans rfl, (blk_cell BK129.out 1).trans rfl, (blk_cell BK129.out 2).trans rfl, (blk_cell BK129.out 3).trans rfl⟩ (fun hHeld => ?_)
          clear hK K
          refine norm_ (a' := ?_) ?_ ?_
          rotate_left
          · show Act.put _ (some 28) _ = _
            simp only [Act.put, List.setIfInBounds_toArray, List.set_cons_zero, List.set_cons_succ, i64_w, i32_w]
            rfl
          refine pure_ (i := 6) (N := some 4) (v := ?_) (a' := ?_) #[true, true, true, true, true, true, true, false] rfl rfl (any_of HT_.out (by kernel_rfl)) (fun _ _ _ h => h) (Or.inl ⟨by rfl, ?_⟩) ?_ ?_
          rotate_left
          · intro w'
            go_simp
            with_reducible rfl
          rotate_left
          · simp only [Act.put, List.setIfInBounds_toArray, List.set_cons_zero, List.set_cons_succ, i64_w, i32_w]
            rfl
          refine pure_ (i := 7) (N := some 5) (v := ?_) (a' := ?_) #[true, true, true, true, true, true, true, true] rfl rfl (any_of HT_.out (by kernel_rfl)) (fun _ _ _ h => h) (Or.inl ⟨by rfl, ?_⟩) ?_ ?_
          rotate_left
          · intro w'
            go_simp
            with_reducible rfl
          rotate_left
          · simp only [Act.put, List.setIfInBounds_toArray, List.set_cons_zero, List.set_cons_succ, i64_w, i32_w]
            rfl
          refine done_ (done_of HT_.out (by kernel_rfl)) ?_
          try go_wp2
          go_ret2
          exact ⟨_, by first | rfl | (simp [errW_none, errW_some] <;> rfl) | (simp [*, errW_none, errW_some] <;> rfl), by (with_reducible repeat (first | apply Kd.R_alloc | apply Kd.R_drewN | apply Kd.R_drew)); exact Kd.R_mono HO142.out (fun _ hk => trivial), by repeat (first | (with_reducible first | exact HB.out | apply below_alloc | apply pw_below_drewN | apply below_drew1 | refine below_set ?_ GE129.out) | exact HB.out)⟩

end Go.Proofs.Ytnegohkckgfbiaa.X
-- written by wip/xprint.py out of the translation (the kit's printer, driven)
namespace Go.Proofs.Ytnegohkckgfbiaa.X
open Go.RowKit Go.Proofs.YtnegohkckgfbiaaW.PrintWords Go.Proofs.YtnegohkckgfbiaaW.PrintLast Go.Proofs.YtnegohkckgfbiaaW.PrintMore
attribute [local go_sem] cell_twice max2_int min2_int max_two min_two max_three min_three max_four min_four   -- for this text's walks alone
set_option linter.unusedVariables false
set_option linter.unusedSimpArgs false

theorem eqA24 (d : Nat) (w : World) (x0 y0 : Int) (x1 y1 : Int) :
    (Op.equalIn (d + 2) 24 (.agg #[.int .i64 x0, .int .i64 x1]) (.agg #[.int .i64 y0, .int .i64 y1])).run Try.prog w = .ok (x0 == y0 && (x1 == y1)) w := by
  refine eqA_of Try.underlying24 (by kernel_rfl) ?_
  refine eqf_cons (by rfl) (by go_simp; rfl) (by go_simp; rfl) (by go_simp) ?_
  exact eqf_last (by rfl) (by go_simp; rfl) (by go_simp; rfl) (by go_simp)
end Go.Proofs.Ytnegohkckgfbiaa.X
-- written by wip/xprint.py out of the translation (the kit's printer, driven)
namespace Go.Proofs.Ytnegohkckgfbiaa.X
open Go.RowKit Go.Proofs.YtnegohkckgfbiaaW.PrintWords Go.Proofs.YtnegohkckgfbiaaW.PrintLast Go.Proofs.YtnegohkckgfbiaaW.PrintMore
attribute [local go_sem] cell_twice max2_int min2_int max_two min_two max_three min_three max_four min_four   -- for this text's walks alone
set_option linter.unusedVariables false
set_option linter.unusedSimpArgs false

theorem eqA26 (d : Nat) (w : World) (x0 y0 : Int) (x1 y1 : Int) (x2 y2 : Int) (x3 y3 : Int) :
    (Op.equalIn (d + 3) 26 (.agg #[.int .i64 x0, .int .i64 x1, .int .i64 x2, .int .i64 x3]) (.agg #[.int .i64 y0, .int .i64 y1, .int .i64 y2, .int .i64 y3])).run Try.prog w = .ok (x0 == y0 && ((x1 == y1 && (x2 == y2)) && (x3 == y3))) w := by
  refine eqA_of Try.underlying26 (by kernel_rfl) ?_
  refine eqf_cons (by rfl) (by go_simp; rfl) (by go_simp; rfl) (by go_simp) ?_
  refine eqf_cons (by rfl) (by go_simp) (by go_simp) (eqA24 (d + 0) w _ _ _ _) ?_
  exact eqf_last (by rfl) (by go_simp; rfl) (by go_simp; rfl) (by go_simp)
end Go.Proofs.Ytnegohkckgfbiaa.X
-- written by wip/xprint.py out of the translation (the kit's printer, driven)
namespace Go.Proofs.Ytnegohkckgfbiaa.X
open Go.RowKit Go.Proofs.YtnegohkckgfbiaaW.PrintWords Go.Proofs.YtnegohkckgfbiaaW.PrintLast Go.Proofs.YtnegohkckgfbiaaW.PrintMore
attribute [local go_sem] cell_twice max2_int min2_int max_two min_two max_three min_three max_four min_four   -- for this text's walks alone
set_option linter.unusedVariables false
set_option linter.unusedSimpArgs false

attribute [local go_sem high] eqA26
/-! ### sizarref31_Same: function 16 -/
def sizarref31_Same.l0 : Nat → List (S26) → List (S26) → Int → Option (Bool)
  | 0, _, _, _ => none
  | k + 1, x0, x1, x5 => if x5 < (x0.length : Int) then (if 0 ≤ x5 then (if x5 < (x1.length : Int) then (if (!(((rd_T26 x0 x5).f0) == ((rd_T26 x1 x5).f0)) || ((!(((rd_T26 x0 x5).f1.f0) == ((rd_T26 x1 x5).f1.f0)) || (!(((rd_T26 x0 x5).f1.f1) == ((rd_T26 x1 x5).f1.f1)))) || (!(((rd_T26 x0 x5).f2) == ((rd_T26 x1 x5).f2))))) = true then (some false) else (sizarref31_Same.l0 k x0 x1 (wrap64 (x5 + 1)))) else (none)) else (none)) else (some true)
def sizarref31_Same.f (k : Nat) (l0 : List (S26)) (l1 : List (S26)) : Option (Bool) := if (l0.length : Int) = (l1.length : Int) then (sizarref31_Same.l0 k l0 l1 0) else (some false)
theorem sizarref31_Same.mono_l : ∀ k, (∀ y0 y1 y2, LeO (sizarref31_Same.l0 k y0 y1 y2) (sizarref31_Same.l0 (k + 1) y0 y1 y2))
  | 0 => fun _ _ _ r h => by simp [sizarref31_Same.l0] at h
  | k + 1 => by
    have ih0 := sizarref31_Same.mono_l k
    · intro y0 y1 y2
      unfold sizarref31_Same.l0
      repeat' first
      | (with_reducible exact ih0 _ _ _)
      | (with_reducible exact LeO.refl _)
      | (with_reducible exact LeO.none _)
      | (with_reducible refine LeO.ite ?_ ?_)
      | (with_reducible refine LeO.bind ?_ (fun _ => ?_))
      | exact ih0 _ _ _
      | exact LeO.none _
      | refine LeO.ite ?_ ?_
      | refine LeO.bind ?_ (fun _ => ?_)
theorem sizarref31_Same.mono : ∀ a0 a1 k, LeO (sizarref31_Same.f k a0 a1) (sizarref31_Same.f (k + 1) a0 a1) := by
  intro a0 a1 k
  have ih0 := sizarref31_Same.mono_l k
  unfold sizarref31_Same.f
  repeat' first
      | (with_reducible exact ih0 _ _ _)
      | (with_reducible exact LeO.refl _)
      | (with_reducible exact LeO.none _)
      | (with_reducible refine LeO.ite ?_ ?_)
      | (with_reducible refine LeO.bind ?_ (fun _ => ?_))
      | exact ih0 _ _ _
      | exact LeO.none _
      | refine LeO.ite ?_ ?_
      | refine LeO.bind ?_ (fun _ => ?_)
set_option maxHeartbeats 8000000 in
set_option maxRecDepth 100000 in
theorem sizarref31_Same.calls (k : Nat) (A0 : Option Addr) (c0 : Nat) (l0 : List (S26)) (A1 : Option Addr) (c1 : Nat) (l1 : List (S26)) (r : Bool) (w : World) (hr0 : Kd.C k26 w A0 l0.length l0) (hc0 : l0.length ≤ c0) (hr1 : Kd.C k26 w A1 l1.length l1) (hc1 : l1.length ≤ c1) (h : sizarref31_Same.f k l0 l1 = some r) :
    Calls Try.prog 16 #[.slice A0 l0.length c0, .slice A1 l1.length c1] w fun e w' => e = .returned (.bool r) ∧ Drawn0 w w' := by
  have hu26 := Try.underlying26
  have HR0 := Aside0.mk hr0
  have HC0 := Aside0.mk hc0
  clear hr0 hc0
  have HR1 := Aside0.mk hr1
  have HC1 := Aside0.mk hc1
  clear hr1 hc1
  have H : (if (l0.length : Int) = (l1.length : Int) then (sizarref31_Same.l0 k l0 l1 0) else (some false)) = some r := h
  clear h
  by_cases c3 : (l0.length : Int) = (l1.length : Int)
  · rw [if_pos c3] at H
    have c3b0 : ((l0.length : Int) == (l1.length : Int)) = true := beq_iff_eq.mpr c3
    have c3b1 : ((l0.length : Int) != (l1.length : Int)) = false := bne_eq_false_iff_eq.mpr c3
    have c3b2 : (l0.length == l1.length) = true := by first | simpa using c3 | (simp at c3 ⊢; omega)
    clear c3
    have H' := Aside0.mk H
    clear H
    go_enter Try.func16, Try.ntmps16
    go_wp2
    repeat (go_quiet (fail); try go_wp2)
    go_loopg [5] k (fun kq v5 w' => ∃ (x5_1 : Int), v5 = .int .i64 x5_1 ∧ Aside0 (sizarref31_Same.l0 kq l0 l1 x5_1 = some r) ∧ Aside0 (kq ≤ k) ∧ Drawn0 w w')
    case atStart => exact ⟨(0), (by first | rfl | (simp; done) | (simp [*]; done)), H', ⟨Nat.le_refl _⟩, by repeat (first | exact Drawn0.refl _ | apply Drawn0.step)⟩
    case round =>
      clear H'
      try clear c1
      try clear p2
      try clear c3
      try clear c3b0
      try clear c3b1
      try clear c3b2
      obtain ⟨x5_1, rfl, HA, HK1, ⟨m1, rfl⟩⟩ := hrel
      cases gk with
      | zero => exact absurd HA.out (by simp [sizarref31_Same.l0])
      | succ k1 =>
        have H := HA.out
        clear HA
        simp only [sizarref31_Same.l0] at H
        by_cases c4 : x5_1 < (l0.length : Int)
        · rw [if_pos c4] at H
          have c4b0 : decide (x5_1 < (l0.length : Int)) = true := decide_eq_true c4
          clear c4
          by_cases c5 : 0 ≤ x5_1
          · rw [if_pos c5] at H
            have c5b0 : decide (0 ≤ x5_1) = true := decide_eq_true c5
            clear c5
            by_cases c6 : x5_1 < (l1.length : Int)
            · rw [if_pos c6] at H
              have c6b0 : decide (x5_1 < (l1.length : Int)) = true := decide_eq_true c6
              clear c6
              by_cases c7 : (!(((rd_T26 l0 x5_1).f0) == ((rd_T26 l1 x5_1).f0)) || ((!(((rd_T26 l0 x5_1).f1.f0) == ((rd_T26 l1 x5_1).f1.f0)) || (!(((rd_T26 l0 x5_1).f1.f1) == ((rd_T26 l1 x5_1).f1.f1)))) || (!(((rd_T26 l0 x5_1).f2) == ((rd_T26 l1 x5_1).f2))))) = true
              · rw [if_pos c7] at H
                have c7b0 : (!(((rd_T26 l0 x5_1).f0) == ((rd_T26 l1 x5_1).f0)) || ((!(((rd_T26 l0 x5_1).f1.f0) == ((rd_T26 l1 x5_1).f1.f0)) || (!(((rd_T26 l0 x5_1).f1.f1) == ((rd_T26 l1 x5_1).f1.f1)))) || (!(((rd_T26 l0 x5_1).f2) == ((rd_T26 l1 x5_1).f2))))) = true := c7
                clear c7
                obtain rfl := Option.some.inj H
                have p143 : 0 ≤ (x5_1 : Int) := of_decide_eq_true (by first | (with_reducible assumption) | assumption)
                have q143 : x5_1 < (l0.length : Int) := of_decide_eq_true (by first | (with_reducible assumption) | assumption)
                obtain ⟨ad143, e143, hx143_0, hx143_1, hx143_2, hx143_3⟩ := at_T26 HR0.out x5_1 p143 q143
                cases e143
                replace p143 := eq_true p143
                replace q143 := eq_true q143
                have p144 : 0 ≤ (x5_1 : Int) := of_decide_eq_true (by first | (with_reducible assumption) | assumption)
                have q144 : x5_1 < (l1.length : Int) := of_decide_eq_true (by first | (with_reducible assumption) | assumption)
                obtain ⟨ad144, e144, hx144_0, hx144_1, hx144_2, hx144_3⟩ := at_T26 HR1.out x5_1 p144 q144
                cases e144
                replace p144 := eq_true p144
                replace q144 := eq_true q144
                go_wp2
                repeat (go_quiet (fail); try go_wp2)
                go_ret
                exact ⟨by first | rfl | (simp; done) | (simp [*]; done), by repeat (first | exact Drawn0.refl _ | apply Drawn0.step)⟩
              · rw [if_neg c7] at H
                have c7b0 : (!(((rd_T26 l0 x5_1).f0) == ((rd_T26 l1 x5_1).f0)) || ((!(((rd_T26 l0 x5_1).f1.f0) == ((rd_T26 l1 x5_1).f1.f0)) || (!(((rd_T26 l0 x5_1).f1.f1) == ((rd_T26 l1 x5_1).f1.f1)))) || (!(((rd_T26 l0 x5_1).f2) == ((rd_T26 l1 x5_1).f2))))) = false := by simpa using c7
                clear c7
                have H' := Aside0.mk H
                clear H
                have p143 : 0 ≤ (x5_1 : Int) := of_decide_eq_true (by first | (with_reducible assumption) | assumption)
                have q143 : x5_1 < (l0.length : Int) := of_decide_eq_true (by first | (with_reducible assumption) | assumption)
                obtain ⟨ad143, e143, hx143_0, hx143_1, hx143_2, hx143_3⟩ := at_T26 HR0.out x5_1 p143 q143
                cases e143
                replace p143 := eq_true p143
                replace q143 := eq_true q143
                have p144 : 0 ≤ (x5_1 : Int) := of_decide_eq_true (by first | (with_reducible assumption) | assumption)
                have q144 : x5_1 < (l1.length : Int) := of_decide_eq_true (by first | (with_reducible assumption) | assumption)
                obtain ⟨ad144, e144, hx144_0, hx144_1, hx144_2, hx144_3⟩ := at_T26 HR1.out x5_1 p144 q144
                cases e144
                replace p144 := eq_true p144
                replace q144 := eq_true q144
                go_wp2
                repeat (go_quiet (fail); try go_wp2)
                go_roundg k1
                case measure => have := HK1.out; omega
                case rel => exact ⟨(wrap64 (x5_1 + 1)), (by first | rfl | (simp; done) | (simp [*]; done)), H', ⟨by have := HK1.out; omega⟩, by repeat (first | exact Drawn0.refl _ | apply Drawn0.step)⟩
            · rw [if_neg c6] at H
              exact absurd H (by simp)
          · rw [if_neg c5] at H
            exact absurd H (by simp)
        · rw [if_neg c4] at H
          have c4b0 : decide (x5_1 < (l0.length : Int)) = false := decide_eq_false c4
          clear c4
          obtain rfl := Option.some.inj H
          go_wp2
          repeat (go_quiet (fail); try go_wp2)
          go_ret
          exact ⟨by first | rfl | (simp; done) | (simp [*]; done), by repeat (first | exact Drawn0.refl _ | apply Drawn0.step)⟩
  · rw [if_neg c3] at H
    have c3b0 : ((l0.length : Int) == (l1.length : Int)) = false := beq_eq_false_iff_ne.mpr c3
    have c3b1 : ((l0.length : Int) != (l1.length : Int)) = true := bne_iff_ne.mpr c3
    have c3b2 : (l0.length == l1.length) = false := by first | simpa using c3 | (simp at c3 ⊢; omega)
    obtain rfl := Option.some.inj H
    go_enter Try.func16, Try.ntmps16
    go_wp2
    repeat (go_quiet (fail); try go_wp2)
    go_ret
    exact ⟨by first | rfl | (simp; done) | (simp [*]; done), by repeat (first | exact Drawn0.refl _ | apply Drawn0.step)⟩

end Go.Proofs.Ytnegohkckgfbiaa.X
/-
  What the body of a range over a function keeps: all blocks of S, the outside and the tape.
-/
set_option linter.unusedVariables false
set_option linter.unusedSimpArgs false
namespace Go.Proofs.Ytnegohkckgfbiaa.Rng
open Go Go.RowKit

structure Keep (S : Nat → Prop) (W W' : World) : Prop where
  os : W'.os = W.os
  tape : W'.tape = W.tape
  output : W'.output = W.output
  size : W.heap.size ≤ W'.heap.size
  block : ∀ k, S k → k < W.heap.size → W'.heap[k]? = W.heap[k]?
variable {S : Nat → Prop} {A B C W W' : World}
theorem Keep.refl (S : Nat → Prop) (W : World) : Keep S W W := ⟨rfl, rfl, rfl, Nat.le_refl _, fun _ _ _ => rfl⟩
theorem Keep.trans (h : Keep S A B) (k : Keep S B C) : Keep S A C :=
  ⟨k.os.trans h.os, k.tape.trans h.tape, k.output.trans h.output, Nat.le_trans h.size k.size, fun i hs hi => (k.block i hs (Nat.lt_of_lt_of_le hi h.size)).trans (h.block i hs hi)⟩
theorem Keep.of_below (h : Below W.heap.size W W') : Keep S W W' := ⟨h.os, h.tape, h.output, h.size, fun k _ hk => h.block k hk⟩
theorem Keep.below {n : Nat} (h : Keep S W W') (hn : n ≤ W.heap.size) (hS : ∀ k, k < n → S k) : Below n W W' := ⟨h.os, h.tape, h.output, h.size, fun k hk => h.block k (hS k hk) (Nat.lt_of_lt_of_le hk hn)⟩
theorem Keep.alloc (h : Keep S A W) (o : Obj) : Keep S A (W.alloc o) := h.trans (Keep.of_below ((Below.refl _ W).alloc (Nat.le_refl _) o))
theorem Keep.drew (h : Keep S A W) : Keep S A W.drew := ⟨h.os, h.tape, h.output, h.size, h.block⟩
theorem Keep.drewN (h : Keep S A W) (n : Nat) : Keep S A (W.drewN n) := ⟨h.os, h.tape, h.output, h.size, h.block⟩
theorem Keep.grown {row : Option Nat} (h : Keep S A W) (hg : W.grownBy W' row) (hr : ∀ k, row = some k → A.heap.size ≤ k ∨ ¬ S k) : Keep S A W' :=
  ⟨hg.os.trans h.os, hg.tape.trans h.tape, hg.output.trans h.output, Nat.le_trans h.size hg.size, fun k hs hk => (hg.block k (Nat.lt_of_lt_of_le hk h.size) (fun e => by
    rcases hr k e.symm with h1 | h1
    · omega
    · exact h1 hs)).trans (h.block k hs hk)⟩
theorem Keep.setCell (h : Keep S A W) {p : Addr} (hp : A.heap.size ≤ p.block ∨ ¬ S p.block) (v : Value) : Keep S A (W.setCell p v) :=
  ⟨h.os, h.tape, h.output, Nat.le_trans h.size (KeepsWalks.setCell W p v).size, fun k hs hk => by
    by_cases he : k = p.block
    · subst he
      rcases hp with h1 | h1
      · omega
      · exact absurd hs h1
    · exact (Below.heap_setCell W p v k he).trans (h.block k hs hk)⟩
theorem Keep.putObj (h : Keep S A W) {l : Nat} (hl : A.heap.size ≤ l ∨ ¬ S l) (o : Obj) : Keep S A (W.putObj l o) :=
  h.grown (grownBy_putObj' W l o) (fun k e => by
    injection e with e
    subst e
    exact hl)
theorem Keep.heap (h : Keep S W W') {k : Nat} {o : Obj} (ho : W.heap[k]? = some o) (hs : S k) : W'.heap[k]? = some o := (h.block k hs (Array.getElem?_eq_some_iff.1 ho).1).trans ho
theorem keep_t (h : Keep S A B) (k : Keep S B C) : Keep S A C := h.trans k
theorem keep_b {w : World} (hS : ∀ k, S k → k < w.heap.size) (W : World) (l : Nat) (o o' : Obj) (hl : w.heap.size ≤ l) (_ : W.heap[l]? = some o) (_ : o.isCells = false) (_ : o.isWalk = false) : Keep S W (W.putObj l o') :=
  (Keep.refl S W).putObj (.inr (fun hs => by have := hS l hs; omega)) o'
theorem wpListIn_append_own_at {F : Fence} {n : Nat} {P : Program} (w : World) {ops : Array Oper} {rest : List Oper} {o : Oper} {a : Act} {Q : Exit → Act → World → Prop}
    (hg : o.guard = none) (s x : Operand) (t : TypeId) (hop : o.op = Op.call { callee := Callee.builtin Builtin.append, args := #[s, x], argTypes := #[t, t] })
    (base : Nat) (e : TypeId) (i : TypeInfo) (z : Value) (size bytes : Nat) (h1 : P.underlying t = some (.slice e)) (h2 : P.info? e = some i) (h3 : i.zero = some z) (h4 : i.size = size) (h5 : i.bytes = bytes) (h6 : z.cells.size = size) (h7 : 0 < size)
    (v : Value) (k : Nat) (xs : List Value) (hs : a.eval s = v) (hown : w.ownsRow base e size v k xs) (ad : Addr) (m c : Nat) (news : List Value) (hx : a.eval x = .slice (some ad) m c) (hn : news.length = m * size)
    (hc : ∀ j u, news[j]? = some u → w.cell? (ad.add j) = some u) (h1c : ∀ u ∈ news, u.oneCell' = true) (b1 : k + m ≤ maxLen) (b2 : (k + m) * bytes ≤ 140737488355328) (b3 : base ≤ w.heap.size)
    (hK : ∀ v' w', w'.ownsRow base e size v' (k + m) (xs ++ news) → w.grownBy w' v.ownBlock → (v'.ownBlock = v.ownBlock ∨ v'.ownBlock = some w.heap.size) → wpListIn F n P ops Q rest (a.put o.dst v') w') :
    wpListIn F n P ops Q (o :: rest) a w := by
  refine wpListIn_plain hg fun K hK' => ?_
  obtain ⟨v', w', hrun, r1, r2, _, r3⟩ := run_append_own_at (P := P) w base t o.type e i z size bytes h1 h2 h3 h4 h5 h6 h7 v k xs hown ad m c news hn hc h1c b1 b2 b3
  unfold Oper.wpIn
  refine ⟨?_, ?_⟩
  · simp [Oper.about, hop, resolve, Target.leads, Sem.run_pure]
  · rw [Oper.semAt_plain F _ _ (by rw [hop]; intro c hc'; cases hc')]
    simp [execOp, hop, resolve, invoke, builtin, hs, hx, hrun, Result.andThen]
    exact hK' _ _ (hK v' w' r1 r2 r3)
theorem row_lt {W : World} {base size k e : Nat} {v : Value} {xs : List Value} (hr : W.ownsRow base e size v k xs) (b : Nat) (h : v.ownBlock = some b) : base ≤ b ∧ b < W.heap.size ∧ ∃ cs, W.heap[b]? = some (.cells cs e (0, 0)) := by
  rcases hr.2 with ⟨rfl, _⟩ | ⟨g, cap, cur, rfl, hb, hh, _⟩
  · simp [Value.ownBlock] at h
  · have : g = b := by simpa [Value.ownBlock] using h
    subst this
    exact ⟨hb, (Array.getElem?_eq_some_iff.1 hh).1, _, hh⟩
theorem row_slice {W : World} {base size k e : Nat} {v : Value} {xs : List Value} (hr : W.ownsRow base e size v k xs) : ∃ A c, v = .slice A k c := by
  rcases hr.2 with ⟨rfl, rfl⟩ | ⟨g, cap, cur, rfl, _⟩
  · exact ⟨none, 0, rfl⟩
  · exact ⟨_, cap, rfl⟩
/-- What is no cells has been turned: boxes and rows stay. -/
theorem box_turn {W W' : World} {row : Option Nat} {B : Nat} {t : TypeId} {v : Value} (h : Boxed W B t v) (hg : W.grownBy W' row) (hr : ∀ r, row = some r → ∃ o : Obj, W.heap[r]? = some o ∧ o.isCells = false) : Boxed W' B t v :=
  h.kept hg (fun e => by
    obtain ⟨o, ho, hc⟩ := hr B e.symm
    rw [show W.heap[B]? = _ from h] at ho
    cases ho
    cases hc)
theorem row_turn {W W' : World} {row : Option Nat} {base size k e : Nat} {v : Value} {xs : List Value} (h : W.ownsRow base e size v k xs) (hg : W.grownBy W' row) (hr : ∀ r, row = some r → ∃ o : Obj, W.heap[r]? = some o ∧ o.isCells = false) : W'.ownsRow base e size v k xs := by
  refine h.kept hg ?_
  rcases h.2 with ⟨rfl, _⟩ | ⟨g, cap, cur, rfl, _, hgb, _⟩
  · exact .inl rfl
  · refine .inr fun e' => ?_
    obtain ⟨o, ho, hc⟩ := hr g (by simpa [Value.ownBlock] using e'.symm)
    rw [hgb] at ho
    cases ho
    cases hc
/-- A store into a box: rows of another type stay. -/
theorem row_setBox {W : World} {B : Nat} {t e : TypeId} {u : Value} (h : Boxed W B t u) (hte : t ≠ e) {base size k : Nat} {v : Value} {xs : List Value} (hr : W.ownsRow base e size v k xs) (x : Value) : (W.setCell ⟨B, 0, none⟩ x).ownsRow base e size v k xs :=
  hr.kept (grownBy_setCell' W B x) (.inr (h.not_row hte hr).symm)
/-- 'x = append(x, o)' where x lies in the box B and another row in the box B2: what is left behind. -/
theorem appended2 {W w1 : World} {M n₀ B B2 : Nat} {S : Nat → Prop} {t e : TypeId} {size k m k2 : Nat} {v v2 v' : Value} {xs ys xs2 : List Value} {tmp : Obj}
    (hB : Boxed W B t v) (hB2 : Boxed W B2 t v2) (hBB : B ≠ B2) (hte : t ≠ e) (hr : W.ownsRow M e size v k xs) (hr2 : W.ownsRow M e size v2 k2 xs2) (hap : ∀ k, v.ownBlock = some k → v2.ownBlock ≠ some k)
    (hM : M ≤ W.heap.size) (hn : n₀ ≤ M) (hnB : n₀ ≤ B) (hS : ∀ k, S k → k < M) (hSB : ¬ S B)
    (hown : w1.ownsRow M e size v' m ys) (hgrow : (W.alloc tmp).grownBy w1 v.ownBlock) (hat : v'.ownBlock = v.ownBlock ∨ v'.ownBlock = some (W.alloc tmp).heap.size) :
    Boxed w1 B t v ∧ (KeepsFrom M W (w1.setCell ⟨B, 0, none⟩ v') ∧ Keep S W (w1.setCell ⟨B, 0, none⟩ v') ∧ Boxed (w1.setCell ⟨B, 0, none⟩ v') B t v' ∧ Boxed (w1.setCell ⟨B, 0, none⟩ v') B2 t v2 ∧
      (w1.setCell ⟨B, 0, none⟩ v').ownsRow M e size v' m ys ∧ (w1.setCell ⟨B, 0, none⟩ v').ownsRow M e size v2 k2 xs2 ∧ (∀ k, v'.ownBlock = some k → v2.ownBlock ≠ some k) ∧ Below n₀ W (w1.setCell ⟨B, 0, none⟩ v') ∧ M ≤ (w1.setCell ⟨B, 0, none⟩ v').heap.size) := by
  have hb1 : Boxed w1 B t v := (hB.alloc tmp).kept hgrow ((hB.alloc tmp).not_row hte (hr.alloc tmp))
  have hb2 : Boxed w1 B2 t v2 := (hB2.alloc tmp).kept hgrow ((hB2.alloc tmp).not_row hte (hr.alloc tmp))
  have hgs := grownBy_setCell' w1 B v'
  have hvM : ∀ k, v.ownBlock = some k → M ≤ k := fun k hk => (row_lt hr k hk).1
  have hr2' : w1.ownsRow M e size v2 k2 xs2 := by
    refine (hr2.alloc tmp).kept hgrow ?_
    cases h : v2.ownBlock with
    | none => exact .inl rfl
    | some q => exact .inr (fun he => hap q he.symm h)
  refine ⟨hb1, ?_, ?_, hb1.set v', hb2.kept hgs (fun h => hBB (by injection h with h; exact h.symm)), hown.kept hgs (.inr (hb1.not_row hte hown).symm), hr2'.kept hgs (.inr (hb1.not_row hte hr2').symm), ?_, ?_, ?_⟩
  · refine KeepsFrom.trans ((KeepsOthers.alloc W tmp).from _) (KeepsFrom.trans (KeepsOthers.from (KeepsOthers.of_grownBy hgrow fun j o ej hj => ?_) _) ((KeepsOthers.setCell _ _ _).from _))
    obtain ⟨_, _, cs, hcs⟩ := row_lt (hr.alloc tmp) j ej
    rw [hcs] at hj
    cases hj
    rfl
  · exact (((Keep.refl S W).alloc tmp).grown hgrow (fun k hk => .inr (fun hs => by have := hvM k hk; have := hS k hs; omega))).setCell (.inr hSB) v'
  · intro k hk h2
    rcases hat with hat | hat
    · exact hap k (hat ▸ hk) h2
    · rw [hat] at hk
      injection hk with hk
      have := (row_lt hr2 k h2).2.1
      simp at hk
      omega
  · refine (((Below.refl n₀ W).alloc (by omega) tmp).grown hgrow (by simp; omega) fun j ej => ?_).setCell (p := ⟨B, 0, none⟩) hnB v'
    have := hvM j ej
    omega
  · have h1 := hgrow.size
    have h2 := hgs.size
    simp at h1
    omega
end Go.Proofs.Ytnegohkckgfbiaa.Rng
-- written by wip/xprint.py out of the translation (the kit's printer, driven)
namespace Go.Proofs.Ytnegohkckgfbiaa.X
open Go.RowKit Go.Proofs.YtnegohkckgfbiaaW.PrintWords Go.Proofs.YtnegohkckgfbiaaW.PrintLast Go.Proofs.YtnegohkckgfbiaaW.PrintMore
attribute [local go_sem] cell_twice max2_int min2_int max_two min_two max_three min_three max_four min_four   -- for this text's walks alone
set_option linter.unusedVariables false
set_option linter.unusedSimpArgs false

/-! ### offers_Expire: function 17 -/
--import Derived.Lib.Hide
--import Derived.Outline
--import Derived.RangeFuncNested
--import Derived.RangeFuncBox
--import Derived.RangeFuncBound
--import Derived.RangeFuncCalls
--import Derived.RangeFuncLeaves
--import Derived.Shelf.Abstract
--import Derived.OwnWalkIn
--import Derived.TacticsInMore
--import Derived.LoopNIn
--import Derived.LoopIn
--import Derived.Maps.AppendAt
--import Derived.Test.YtnegohkckgfbiaaRng
section
open Go.Shelf Go.Proofs.Ytnegohkckgfbiaa.Rng
attribute [local go_sem] Oper.semAt_some
/-- What the iterator yields: each offer, and whether it stands. -/
def encP (x : S26 × Bool) : Array Value := #[.agg #[.int .i64 x.1.f0, .int .i64 x.1.f1.f0, .int .i64 x.1.f1.f1, .int .i64 x.1.f2], .bool x.2]
def told (now : Int) (l : List S26) : List (S26 × Bool) := l.map fun o => (o, decide (now < o.f2))
theorem told_length (now : Int) (l : List S26) : (told now l).length = l.length := by simp [told]
theorem told_succ (now : Int) (l : List S26) (k : Nat) (h : k < l.length) : told now (l.take (k + 1)) = told now (l.take k) ++ [(rd_T26 l (k : Int), decide (now < (rd_T26 l (k : Int)).f2))] := by
  have : rd_T26 l (k : Int) = l[k] := by simp [rd_T26, List.getD_eq_getElem?_getD, List.getElem?_eq_getElem h]
  unfold told
  rw [this, List.take_succ_eq_append_getElem h, List.map_append]
  rfl
set_option maxRecDepth 100000 in
set_option maxHeartbeats 4000000 in
theorem standing1_in (F : Fence) (n : Nat) (h7 : F.fn 40) (hro : F.round = none) (hn : 1 ≤ n) (l Bs Bn : Nat) (S : Nat → Prop) (A : Option Addr) (c : Nat) (zs : List S26) (now : Int) (J Jx : List (S26 × Bool) → World → Prop)
    (hJ : ∀ s W o, J s W → J s (W.alloc o)) (w0 : World) (hS : ∀ k, k < w0.heap.size → S k) (hz : Kd.C k26 w0 A zs.length zs)
    (hY : ∀ pre x W, J pre W → pre.length < zs.length → YieldAt F (n - 1) Try.prog l (encP x) W fun e W' =>
      (e = .returned (.bool true) ∧ J (pre ++ [x]) W' ∧ Keep S W W') ∨ (e = .returned (.bool false) ∧ Jx (pre ++ [x]) W'))
    (W : World) (hb0 : Below w0.heap.size w0 W) (hBs : W.heap[Bs]? = some (.cells #[.slice A zs.length c] 22 (0, 0))) (hBn : W.heap[Bn]? = some (.cells #[.int .i64 now] 3 (0, 0))) (hbn : S Bn) (h0 : J [] W) :
    CallsIn F n Try.prog 40 #[.func (.yield l) #[] #[], .pointer (some ⟨Bs, 0, none⟩), .pointer (some ⟨Bn, 0, none⟩)] W fun e W' => (∃ v, e = .returned v) ∧
      ((∃ ys, ys = told now zs ∧ J ys W') ∨ (∃ pre, pre <+: told now zs ∧ Jx pre W')) := by
  have hmax := hz.2.1
  have HZ := Lib.hid hz
  clear hz
  have c1 : W.cell? ⟨Bs, 0, none⟩ = some (.slice A zs.length c) := blk_cell hBs 0
  have HBn := Lib.hid hBn
  have HB0 := Lib.hid hb0
  have HS0 := Lib.hid hS
  clear hBs hBn hb0 hS
  refine callsIn_of_wp Try.func40 rfl h7 ?_ hro
  simp only [Try.ntmps40, List.size_toArray, List.length_cons, List.length_nil, Nat.reduceAdd, Nat.reduceSub, Array.replicate_succ, Array.replicate_zero, List.push_toArray, List.append_toArray, List.nil_append, List.cons_append]
  gi_wp2
  clear c1
  gi_loopw [8] (fun i wr => ∃ k : Nat, k ≤ zs.length ∧ i = .int .i64 k ∧ Aside0 (J (told now (zs.take k)) wr) ∧ Aside0 (Keep S W wr)) (fun i _ => zs.length - (intOf i).toNat)
  case atStart => exact ⟨0, Nat.zero_le _, rfl, ⟨by simpa [told] using h0⟩, ⟨Keep.refl _ _⟩⟩
  case round =>
    obtain ⟨k, hk, rfl, HJ, HW⟩ := hrel
    have HWB := Aside0.mk (HB0.out.trans (HW.out.below HB0.out.size HS0.out))
    by_cases hlt : k < zs.length
    · obtain ⟨y, hy⟩ : ∃ y, rd_T26 zs (k : Int) = y := ⟨_, rfl⟩
      have hs := told_succ now zs k hlt
      rw [hy] at hs
      have HS := Lib.hid hs
      obtain ⟨ad, rfl, c0, c1, c2, c3⟩ := at_T26 (Kd.C_below HZ.out HWB.out) (k : Int) (by omega) (by omega)
      simp only [Int.toNat_natCast, hy] at c0 c1 c2 c3
      have hBn' := HW.out.heap HBn.out hbn
      have cn : wr.cell? ⟨Bn, 0, none⟩ = some (.int .i64 now) := blk_cell hBn' 0
      have hln : Bn < wr.heap.size := blk_lt hBn'
      clear hs hy hBn'
      obtain ⟨fn, tmps, assign, body, hyl, hR⟩ := hY (told now (zs.take k)) (y, decide (now < y.f2)) (wr.alloc (.cells #[.int .i64 y.f0, .int .i64 y.f1.f0, .int .i64 y.f1.f1, .int .i64 y.f2] 26)) (hJ _ _ _ HJ.out) (by rw [told_length, List.length_take]; omega)
      dsimp only [encP] at hyl
      gi_wp2
      refine hR.mono ?_
      rintro e W3 (⟨rfl, hJ3, hk3⟩ | ⟨rfl, hJx3⟩)
      · have HJ3 := Aside0.mk hJ3
        have HK3 := Aside0.mk ((HW.out.alloc _).trans hk3)
        clear hJ3 hk3
        gi_wp2
        go_roundw
        case rel => exact ⟨k + 1, by omega, by go_num, ⟨by rw [HS.out]; exact HJ3.out⟩, ⟨HK3.out⟩⟩
        case measure => simp [intOf]; omega
      · have HJ3 := Aside0.mk hJx3
        clear hJx3
        gi_wp2
        refine bodyPost_ret (results_none rfl _ _ _) rfl ?_
        exact ⟨⟨_, rfl⟩, .inr ⟨_, by rw [← HS.out]; unfold told; rw [List.map_take]; exact List.take_prefix _ _, HJ3.out⟩⟩
    · obtain rfl : k = zs.length := by omega
      gi_wp2
      go_end0
      exact ⟨⟨_, rfl⟩, .inl ⟨_, by rw [List.take_length], HJ.out⟩⟩
set_option maxHeartbeats 1000000 in
theorem standing_in (F : Fence) (n : Nat) (h5 : F.fn 31) (hro : F.round = none) (A : Option Addr) (len c : Nat) (now : Int) (w : World) :
    CallsIn F n Try.prog 31 #[.slice A len c, .int .i64 now] w fun e w' => e = .returned (.func (.func 40) #[] #[.pointer (some ⟨w.heap.size, 0, none⟩), .pointer (some ⟨w.heap.size + 1, 0, none⟩)]) ∧ w' = (w.alloc (.cells #[.slice A len c] 22)).alloc (.cells #[.int .i64 now] 3) := by
  refine callsIn_of_wp Try.func31 rfl h5 ?_ hro
  simp only [Try.ntmps31, List.size_toArray, List.length_cons, List.length_nil, Nat.reduceAdd, Nat.reduceSub, Array.replicate_succ, Array.replicate_zero, List.push_toArray, List.append_toArray, List.nil_append, List.cons_append]
  gi_wp2
  go_ret
  exact ⟨rfl, rfl⟩
theorem standing_stops (F : Fence) (n : Nat) (h6 : F.fn 40) (hro : F.round = none) (hn : 1 ≤ n) (Bs Bn : Nat) (S : Nat → Prop) (A : Option Addr) (c : Nat) (zs : List S26) (now : Int) (w0 w : World) (hbs : Bs < w.heap.size) (hbn : Bn < w.heap.size) (hb : Below w0.heap.size w0 w) (hS : ∀ k, k < w0.heap.size → S k) (hSn : S Bn)
    (hBs : w.heap[Bs]? = some (.cells #[.slice A zs.length c] 22 (0, 0))) (hBn : w.heap[Bn]? = some (.cells #[.int .i64 now] 3 (0, 0))) (hz : Kd.C k26 w0 A zs.length zs) :
    SeqStopsK F n Try.prog 40 #[.pointer (some ⟨Bs, 0, none⟩), .pointer (some ⟨Bn, 0, none⟩)] encP (Keep S) (fun ys => ys = told now zs) (fun pre => pre <+: told now zs) zs.length w := fun l J Jx W hW hJ _ hY h0 =>
  standing1_in F n h6 hro hn l Bs Bn S A c zs now J Jx (fun s W o hs => hJ s W _ none hs (World.grownBy_alloc W o none) (fun r e => by cases e)) w0 hS hz hY W (hb.trans ⟨hW.os, hW.tape, hW.output, hW.size, fun k hk => hW.block k (Nat.lt_of_lt_of_le hk hb.size)⟩) ((hW.block _ hbs).trans hBs) ((hW.block _ hbn).trans hBn) hSn h0
def stays (pre : List (S26 × Bool)) : List S26 := (pre.filter (·.2)).map (·.1)
def goes (pre : List (S26 × Bool)) : List S26 := (pre.filter (fun x => !x.2)).map (·.1)
theorem stays_yes (pre : List (S26 × Bool)) (x : S26) : stays (pre ++ [(x, true)]) = stays pre ++ [x] := by simp [stays]
theorem stays_no (pre : List (S26 × Bool)) (x : S26) : stays (pre ++ [(x, false)]) = stays pre := by simp [stays]
theorem goes_yes (pre : List (S26 × Bool)) (x : S26) : goes (pre ++ [(x, true)]) = goes pre := by simp [goes]
theorem goes_no (pre : List (S26 × Bool)) (x : S26) : goes (pre ++ [(x, false)]) = goes pre ++ [x] := by simp [goes]
theorem stays_le (pre : List (S26 × Bool)) : (stays pre).length ≤ pre.length := by unfold stays; rw [List.length_map]; exact List.length_filter_le _ _
theorem goes_le (pre : List (S26 × Bool)) : (goes pre).length ≤ pre.length := by unfold goes; rw [List.length_map]; exact List.length_filter_le _ _
/-- Between two rounds: the two boxes, and the rows that they hold. -/
def Inv (w : World) (M : Nat) (pre : List (S26 × Bool)) (W : World) : Prop :=
  ∃ v1 v2 : Value, Boxed W w.heap.size 22 v1 ∧ Boxed W (w.heap.size + 1) 22 v2 ∧ W.ownsRow M 26 4 v1 (stays pre).length ((stays pre).flatMap enc26) ∧ W.ownsRow M 26 4 v2 (goes pre).length ((goes pre).flatMap enc26) ∧ (∀ k, v1.ownBlock = some k → v2.ownBlock ≠ some k) ∧ Below w.heap.size w W ∧ M ≤ W.heap.size
theorem Inv.own (w : World) (M : Nat) (hM : w.heap.size ≤ M) : OwnFrom M (Inv w M) := by
  rintro s X Y row ⟨v1, v2, h1, h2, h3, h4, h5, h6, h7⟩ hg hr
  have hr' := fun r e => (hr r e).2
  exact ⟨v1, v2, box_turn h1 hg hr', box_turn h2 hg hr', row_turn h3 hg hr', row_turn h4 hg hr', h5, h6.grown hg (Nat.le_trans hM h7) (fun k e => Nat.le_trans hM (hr k e).1), Nat.le_trans h7 hg.size⟩
def ExpEnd (w : World) (r1 r2 : List S26) (e : Ending) (w' : World) : Prop :=
  ∃ v0_ v1_ : Value, e = .returned (.tuple #[v0_, v1_]) ∧ Kd.R k26 26 w' w.heap.size (fun k_ => some k_ ≠ (v1_ : Value).ownBlock) v0_ r1 ∧ Kd.R k26 26 w' w.heap.size (fun k_ => some k_ ≠ (v0_ : Value).ownBlock) v1_ r2 ∧ Below w.heap.size w w'
theorem expire_end {F : Fence} {n : Nat} {w W : World} {M D : Nat} {A1 A2 : Option Addr} {C1 C2 : Nat} {l1 l2 : List S26} {tm : Array Value} (hD : M ≤ D) (hM : w.heap.size + 4 ≤ M)
    (b1 : Boxed W w.heap.size 22 (.slice A1 l1.length C1)) (b2 : Boxed W (w.heap.size + 1) 22 (.slice A2 l2.length C2)) (r1 : W.ownsRow M 26 4 (.slice A1 l1.length C1) l1.length (l1.flatMap enc26)) (r2 : W.ownsRow M 26 4 (.slice A2 l2.length C2) l2.length (l2.flatMap enc26))
    (hap : ∀ k, (Value.slice A1 l1.length C1).ownBlock = some k → (Value.slice A2 l2.length C2).ownBlock ≠ some k) (hB : Below w.heap.size w W) (hK : W.heap[D]? = some (.deferred (some []))) (h4 : tm.getD 4 undef = .pointer (some ⟨w.heap.size, 0, none⟩)) (h5 : tm.getD 5 undef = .pointer (some ⟨w.heap.size + 1, 0, none⟩)) :
    bodyPostM F n Try.prog Try.f17 (ExpEnd w l1 l2) Exit.ret { tmps := tm, defers := [{ target := Target.collected D, args := #[] }] } W.drew := by
  refine ⟨by simp, .inl ⟨_, _, rfl, run_takeDeferred (w := W.drew) hK, ?_⟩⟩
  have hg : W.drew.grownBy (W.drew.putObj D (.deferred none)) (some D) := grownBy_putObj' W.drew D _
  have hr : ∀ r, some D = some r → ∃ o : Obj, W.drew.heap[r]? = some o ∧ o.isCells = false := fun r e => by
    injection e with e
    subst e
    exact ⟨_, hK, rfl⟩
  have c1 := (box_turn (W := W.drew) (v := .slice A1 l1.length C1) b1 hg hr).cell
  have c2 := (box_turn (W := W.drew) (v := .slice A2 l2.length C2) b2 hg hr).cell
  have q1 := row_turn (W := W.drew) (v := .slice A1 l1.length C1) r1 hg hr
  have q2 := row_turn (W := W.drew) (v := .slice A2 l2.length C2) r2 hg hr
  refine ⟨.tuple #[.slice A1 l1.length C1, .slice A2 l2.length C2], ?_, ⟨_, _, rfl, ?_, ?_, ?_⟩⟩
  · have h4' : tm[4]?.getD undef = .pointer (some ⟨w.heap.size, 0, none⟩) := by simpa using h4
    have h5' : tm[5]?.getD undef = .pointer (some ⟨w.heap.size + 1, 0, none⟩) := by simpa using h5
    simp [results, Try.f17, h4', h5', go_sem, c1, c2]
  · exact Kd.R_lower (R_of_flat q1 (fun k hk he => hap k hk (by rw [he]))) (by omega)
  · exact Kd.R_lower (R_of_flat q2 (fun k hk he => hap k (by rw [he]) hk)) (by omega)
  · exact hB.drew.grown hg hB.size (fun k e => by injection e with e; omega)
set_option maxRecDepth 100000 in
set_option maxHeartbeats 8000000 in
theorem expire_in (F : Fence) (n : Nat) (h17 : F.fn 17) (h31 : F.fn 31) (h40 : F.fn 40) (hro : F.round = none) (hn : 3 ≤ n) (A : Option Addr) (c : Nat) (zs : List S26) (now : Int) (w : World) (hz : Kd.C k26 w A zs.length zs) (hbytes : zs.length * 32 ≤ 140737488355328) :
    CallsIn F n Try.prog 17 #[.slice A zs.length c, .int .i64 now] w (ExpEnd w (stays (told now zs)) (goes (told now zs))) := by
  have h1 : 1 ≤ n := by omega
  obtain ⟨i0, hi0, hz0, hz1, hz2⟩ := info_parts info26
  have HZ := Lib.hid hz
  clear hz
  refine callsIn_of_wp_marks Try.func17 rfl h17 ?_ hro
  simp only [Try.ntmps17, List.size_toArray, List.length_cons, List.length_nil, Nat.reduceAdd, Nat.reduceSub, Array.replicate_succ, Array.replicate_zero, List.push_toArray, List.append_toArray, List.nil_append, List.cons_append]
  gi_wp2_with (gi_at_call 31; refine (standing_in F (n - 1) h31 hro _ _ _ _ _).mono ?_; rintro e w' ⟨rfl, rfl⟩)
  have bX := (((Boxed.new w 22 (.slice none 0 0)).alloc (.cells #[.slice none 0 0] 22)).alloc (.cells #[.slice A zs.length c] 22)).alloc (.cells #[.int .i64 now] 3)
  have bG := ((Boxed.new (w.alloc (.cells #[.slice none 0 0] 22)) 22 (.slice none 0 0)).alloc (.cells #[.slice A zs.length c] 22)).alloc (.cells #[.int .i64 now] 3)
  have bS := (Boxed.new ((w.alloc (.cells #[.slice none 0 0] 22)).alloc (.cells #[.slice none 0 0] 22)) 22 (.slice A zs.length c)).alloc (.cells #[.int .i64 now] 3)
  have bN := Boxed.new (((w.alloc (.cells #[.slice none 0 0] 22)).alloc (.cells #[.slice none 0 0] 22)).alloc (.cells #[.slice A zs.length c] 22)) 3 (.int .i64 now)
  simp only [World.size_alloc] at bX bG bS bN
  have hB0 : Below w.heap.size w ((((w.alloc (.cells #[.slice none 0 0] 22)).alloc (.cells #[.slice none 0 0] 22)).alloc (.cells #[.slice A zs.length c] 22)).alloc (.cells #[.int .i64 now] 3)) := ((((Below.refl _ w).alloc (Nat.le_refl _) _).alloc (by simp) _).alloc (by simp; omega) _).alloc (by simp; omega) _
  have hsz : ((((w.alloc (.cells #[.slice none 0 0] 22)).alloc (.cells #[.slice none 0 0] 22)).alloc (.cells #[.slice A zs.length c] 22)).alloc (.cells #[.int .i64 now] 3)).heap.size = w.heap.size + 4 := by simp
  obtain ⟨W0, hW0⟩ : ∃ W0, (((w.alloc (.cells #[.slice none 0 0] 22)).alloc (.cells #[.slice none 0 0] 22)).alloc (.cells #[.slice A zs.length c] 22)).alloc (.cells #[.int .i64 now] 3) = W0 := ⟨_, rfl⟩
  rw [hW0] at bX bG bS bN hB0 hsz ⊢
  clear hW0
  have hs1 : w.heap.size + 4 ≤ W0.heap.size := by omega
  have hs2 : W0.heap.size ≤ w.heap.size + 4 := by omega
  clear hsz
  refine wpIn_rangeFunc_ownH hro h1 (gf := 40) (lb := #[.pointer (some ⟨w.heap.size + 1 + 1, 0, none⟩), .pointer (some ⟨w.heap.size + 1 + 1 + 1, 0, none⟩)]) rfl h40 (enters_of Try.func40 (by kernel_rfl) rfl)
    (standing_stops F (n - 1) h40 hro (by omega) (w.heap.size + 1 + 1) (w.heap.size + 1 + 1 + 1) (fun k => k < W0.heap.size ∧ k ≠ w.heap.size ∧ k ≠ w.heap.size + 1) A c zs now w W0 (by omega) (by omega) hB0 (fun k hk => ⟨by omega, by omega, by omega⟩) ⟨by omega, by omega, by omega⟩ bS bN HZ.out) keep_t (keep_b (fun k hk => hk.1)) (Below.refl _ _) (fun _ => rfl)
    (Inv w W0.heap.size)
    (fun _ _ _ => False)
    (Inv.own w W0.heap.size (by omega))
    (fun _ _ _ _ _ hs _ _ => hs)
    ⟨_, _, bX, bG, World.ownsRow_nil _ _ _ _, World.ownsRow_nil _ _ _ _, fun k hk => by simp [Value.ownBlock] at hk, hB0, Nat.le_refl _⟩
    (fun x a' W => ∃ Bx, W.heap[Bx]? = some (.cells #[.int .i64 x.1.f0, .int .i64 x.1.f1.f0, .int .i64 x.1.f1.f1, .int .i64 x.1.f2] 26 (0, 0)) ∧ a' = { tmps := #[.slice A zs.length c, .int .i64 now, undef, undef, .pointer (some ⟨w.heap.size, 0, none⟩), .pointer (some ⟨w.heap.size + 1, 0, none⟩), .pointer (some ⟨Bx, 0, none⟩), .bool x.2, .slice A zs.length c, .int .i64 now, .func (.func 40) #[] #[.pointer (some ⟨w.heap.size + 1 + 1, 0, none⟩), .pointer (some ⟨w.heap.size + 1 + 1 + 1, 0, none⟩)], .agg #[.int .i64 x.1.f0, .int .i64 x.1.f1.f0, .int .i64 x.1.f1.f1, .int .i64 x.1.f2], .bool x.2, undef, undef, undef, undef, undef, undef, undef, undef, undef, undef, undef], defers := [] })
    (fun x a' _ X Y row hs hg hr => by
      obtain ⟨Bx, h2, h3⟩ := hs
      exact ⟨Bx, (hg.block Bx (blk_lt h2) (fun e => by
        obtain ⟨o, ho, hc⟩ := (hr Bx e.symm).2
        rw [h2] at ho
        cases ho
        cases hc)).trans h2, h3⟩)
    ?assign ?body ?done ?stop
  case assign =>
    rintro l pre x W K ⟨v1, v2, b1, b2, r1, r2, hap, hB, hM⟩ hK
    dsimp only [encP]
    gi_wp2
    exact hK _ _ ((KeepsOthers.alloc _ _).from _) ((Keep.refl _ W).alloc _) ⟨v1, v2, b1.alloc _, b2.alloc _, r1.alloc _, r2.alloc _, hap, hB.alloc hB.size _, by simp; omega⟩ ⟨W.heap.size, heap_alloc_new W _, rfl⟩
  case body =>
    rintro l pre x a' W hl ⟨r, hr⟩ ⟨v1, v2, b1, b2, r1, r2, hap, hB, hM⟩ ⟨Bx, hX, rfl⟩ hlt
    have cX0 := blk_cell hX 0
    have cX1 := blk_cell hX 1
    have cX2 := blk_cell hX 2
    have cX3 := blk_cell hX 3
    have c1 := b1.cell
    have c2 := b2.cell
    have lX := blk_lt hX
    have hl1 := stays_le pre
    have hl2 := goes_le pre
    obtain ⟨y, q⟩ := x
    have hnews : ∀ j u, (enc26 y)[j]? = some u → (W.alloc (.cells #[.int .i64 y.f0, .int .i64 y.f1.f0, .int .i64 y.f1.f1, .int .i64 y.f2] 26)).cell? ((⟨W.heap.size, 0, none⟩ : Addr).add j) = some u := by
      have := World.news_of_block (cs := (enc26 y).toArray) (t := 26) (fr := (0, 0)) (heap_alloc_new W (.cells (enc26 y).toArray 26))
      simpa [enc26] using this
    have HN := Lib.hid hnews
    have I1 := Lib.hid b1
    have I2 := Lib.hid b2
    have I3 := Lib.hid hap
    have I4 := Lib.hid hB
    have I5 := Lib.hid r1
    have I6 := Lib.hid r2
    clear hnews hX b1 b2 hap hB r1 r2 hr
    cases q with
    | true =>
      gi_wp2_with (gi_at_builtin; refine wpListIn_append_own_at _ rfl _ _ 22 rfl W0.heap.size 26 i0 _ 4 32 Try.underlying22 hi0 hz0 hz1 hz2 rfl (by decide) _ _ _ rfl (I5.out.alloc _) ⟨W.heap.size, 0, none⟩ 1 1 (enc26 y) rfl rfl HN.out (enc26_one y) (by unfold maxLen; omega) (by omega) (by simp; omega) ?_; intro v' w1 hown' hgrow hat; obtain ⟨hbx, hall⟩ := appended2 (S := fun k => k < W0.heap.size ∧ k ≠ w.heap.size ∧ k ≠ w.heap.size + 1) (n₀ := w.heap.size) I1.out I2.out (by omega) (by decide) I5.out I6.out I3.out hM (by omega) (Nat.le_refl _) (fun k hk => hk.1) (fun hk => hk.2.1 rfl) hown' hgrow hat; have HA := Lib.hid hall; have HO := Lib.hid hown'; clear hall hgrow hat; obtain ⟨A', c', rfl⟩ := row_slice hown'; clear hown'; have hbc := hbx.cell; have hbf := hbx.frozen; clear hbx)
      obtain ⟨g1, g2, g3, g4, g5, g6, g7, g8, g9⟩ := HA.out
      exact ⟨g1, g2, _, _, g3, g4, by rw [stays_yes, List.length_append, List.flatMap_append]; simpa using g5, by rw [goes_yes]; exact g6, g7, I4.out.trans g8, g9⟩
    | false =>
      gi_wp2_with (gi_at_builtin; refine wpListIn_append_own_at _ rfl _ _ 22 rfl W0.heap.size 26 i0 _ 4 32 Try.underlying22 hi0 hz0 hz1 hz2 rfl (by decide) _ _ _ rfl (I6.out.alloc _) ⟨W.heap.size, 0, none⟩ 1 1 (enc26 y) rfl rfl HN.out (enc26_one y) (by unfold maxLen; omega) (by omega) (by simp; omega) ?_; intro v' w1 hown' hgrow hat; obtain ⟨hbx, hall⟩ := appended2 (S := fun k => k < W0.heap.size ∧ k ≠ w.heap.size ∧ k ≠ w.heap.size + 1) (n₀ := w.heap.size) I2.out I1.out (by omega) (by decide) I6.out I5.out (fun k h1 h2 => I3.out k h2 h1) hM (by omega) (by omega) (fun k hk => hk.1) (fun hk => hk.2.2 rfl) hown' hgrow hat; have HA := Lib.hid hall; have HO := Lib.hid hown'; clear hall hgrow hat; obtain ⟨A', c', rfl⟩ := row_slice hown'; clear hown'; have hbc := hbx.cell; have hbf := hbx.frozen; clear hbx)
      obtain ⟨g1, g2, g3, g4, g5, g6, g7, g8, g9⟩ := HA.out
      exact ⟨g1, g2, _, _, g4, g3, by rw [stays_no]; exact g6, by rw [goes_no, List.length_append, List.flatMap_append]; simpa using g5, fun k h1 h2 => g7 k h2 h1, I4.out.trans g8, g9⟩
  case done =>
    rintro D ys W hD rfl ⟨v1, v2, b1, b2, r1, r2, hap, hB, hM⟩ hK
    have c1 := b1.cell
    have c2 := b2.cell
    have f1 := b1.frozen
    have f2 := b2.frozen
    have I1 := Lib.hid b1
    have I2 := Lib.hid b2
    have I3 := Lib.hid hap
    have I4 := Lib.hid hB
    have I5 := Lib.hid r1
    have I6 := Lib.hid r2
    have I7 := Lib.hid hK
    obtain ⟨A1, C1, rfl⟩ := row_slice r1
    obtain ⟨A2, C2, rfl⟩ := row_slice r2
    clear b1 b2 hap hB r1 r2 hK
    gi_wp2
    gi_region
    all_goals gi_wp2
    all_goals first
      | exact expire_end hD hs1 ((I1.out.set _).other (by omega) _) ((I2.out.other (by omega) _).set _) (row_setBox (I2.out.other (by omega) _) (by decide) (row_setBox I1.out (by decide) I5.out _) _) (row_setBox (I2.out.other (by omega) _) (by decide) (row_setBox I1.out (by decide) I6.out _) _) I3.out ((I4.out.setCell (p := ⟨w.heap.size, 0, none⟩) (Nat.le_refl _) _).setCell (p := ⟨w.heap.size + 1, 0, none⟩) (by simp) _) (((KeepsOthers.setCell _ _ _).trans (KeepsOthers.setCell _ _ _)).same D _ I7.out rfl) rfl rfl
      | exact expire_end hD hs1 ((I1.out.other (by omega) _).set _) ((I2.out.set _).other (by omega) _) (row_setBox (I1.out.other (by omega) _) (by decide) (row_setBox I2.out (by decide) I5.out _) _) (row_setBox (I1.out.other (by omega) _) (by decide) (row_setBox I2.out (by decide) I6.out _) _) I3.out ((I4.out.setCell (p := ⟨w.heap.size + 1, 0, none⟩) (by simp) _).setCell (p := ⟨w.heap.size, 0, none⟩) (Nat.le_refl _) _) (((KeepsOthers.setCell _ _ _).trans (KeepsOthers.setCell _ _ _)).same D _ I7.out rfl) rfl rfl
  case stop =>
    rintro D c pre W _ _ h _
    exact h.elim
theorem stays_told (now : Int) (l : List S26) : stays (told now l) = l.filter (fun o => decide (now < o.f2)) := by
  unfold stays told
  rw [List.filter_map, List.map_map]
  simp [Function.comp_def]
theorem goes_told (now : Int) (l : List S26) : goes (told now l) = l.filter (fun o => !decide (now < o.f2)) := by
  unfold goes told
  rw [List.filter_map, List.map_map]
  simp [Function.comp_def]
end
def offers_Expire.f (l0 : List (S26)) (a1 : Int) : Option ((List (S26)) × (List (S26))) := if l0.length * 32 ≤ 140737488355328 then some (l0.filter (fun o => decide (a1 < o.f2)), l0.filter (fun o => !decide (a1 < o.f2))) else none
theorem offers_Expire.calls (A0 : Option Addr) (c0 : Nat) (l0 : List (S26)) (a1 : Int) (r1 : List (S26)) (r2 : List (S26)) (w : World) (hr0 : Kd.C k26 w A0 l0.length l0) (hc0 : l0.length ≤ c0) (h : offers_Expire.f l0 a1 = some (r1, r2)) :
    Calls Try.prog 17 #[.slice A0 l0.length c0, .int .i64 a1] w fun e w' => ∃ v0_ v1_ : Value, e = .returned (.tuple #[v0_, v1_]) ∧ Kd.R k26 26 w' w.heap.size (fun k_ => some k_ ≠ (v1_ : Value).ownBlock) v0_ r1 ∧ Kd.R k26 26 w' w.heap.size (fun k_ => some k_ ≠ (v0_ : Value).ownBlock) v1_ r2 ∧ Below w.heap.size w w' := by
  unfold offers_Expire.f at h
  by_cases hb : l0.length * 32 ≤ 140737488355328
  · rw [if_pos hb] at h
    simp only [Option.some.injEq, Prod.mk.injEq] at h
    obtain ⟨rfl, rfl⟩ := h
    have := expire_in Fence.wide 3 trivial trivial trivial rfl (Nat.le_refl _) A0 c0 l0 a1 w hr0 hb
    rw [stays_told, goes_told] at this
    exact callsIn_wide.1 this
  · rw [if_neg hb] at h
    cases h


end Go.Proofs.Ytnegohkckgfbiaa.X
-- written by wip/xprint.py out of the translation (the kit's printer, driven)
namespace Go.Proofs.Ytnegohkckgfbiaa.X
open Go.RowKit Go.Proofs.YtnegohkckgfbiaaW.PrintWords Go.Proofs.YtnegohkckgfbiaaW.PrintLast Go.Proofs.YtnegohkckgfbiaaW.PrintMore
attribute [local go_sem] cell_twice max2_int min2_int max_two min_two max_three min_three max_four min_four   -- for this text's walks alone
set_option linter.unusedVariables false
set_option linter.unusedSimpArgs false

/-! ### offers_Held: function 19 -/
def offers_Held.l0 : Nat → Int → Int → List (S26) → Int → Int → Option (Int)
  | 0, _, _, _, _, _ => none
  | k + 1, x1, x4, x9, x10, x11 => if x11 < x10 then (if 0 ≤ x11 then (if x11 < (x9.length : Int) then (if ((rd_T26 x9 x11).f1.f0) = x1 then (offers_Held.l0 k x1 (wrap64 (x4 + 1)) x9 x10 (wrap64 (x11 + 1))) else (if ((rd_T26 x9 x11).f1.f1) = x1 then (offers_Held.l0 k x1 (wrap64 (x4 + 1)) x9 x10 (wrap64 (x11 + 1))) else (offers_Held.l0 k x1 x4 x9 x10 (wrap64 (x11 + 1))))) else (none)) else (none)) else (some x4)
def offers_Held.f (k : Nat) (l0 : List (S26)) (a1 : Int) : Option (Int) := if a1 < 0 then (some 0) else (offers_Held.l0 k a1 0 l0 (l0.length : Int) 0)
theorem offers_Held.mono_l : ∀ k, (∀ y0 y1 y2 y3 y4, LeO (offers_Held.l0 k y0 y1 y2 y3 y4) (offers_Held.l0 (k + 1) y0 y1 y2 y3 y4))
  | 0 => fun _ _ _ _ _ r h => by simp [offers_Held.l0] at h
  | k + 1 => by
    have ih0 := offers_Held.mono_l k
    · intro y0 y1 y2 y3 y4
      unfold offers_Held.l0
      repeat' first
      | (with_reducible exact ih0 _ _ _ _ _)
      | (with_reducible exact LeO.refl _)
      | (with_reducible exact LeO.none _)
      | (with_reducible refine LeO.ite ?_ ?_)
      | (with_reducible refine LeO.bind ?_ (fun _ => ?_))
      | exact ih0 _ _ _ _ _
      | exact LeO.none _
      | refine LeO.ite ?_ ?_
      | refine LeO.bind ?_ (fun _ => ?_)
theorem offers_Held.mono : ∀ a0 a1 k, LeO (offers_Held.f k a0 a1) (offers_Held.f (k + 1) a0 a1) := by
  intro a0 a1 k
  have ih0 := offers_Held.mono_l k
  unfold offers_Held.f
  repeat' first
      | (with_reducible exact ih0 _ _ _ _ _)
      | (with_reducible exact LeO.refl _)
      | (with_reducible exact LeO.none _)
      | (with_reducible refine LeO.ite ?_ ?_)
      | (with_reducible refine LeO.bind ?_ (fun _ => ?_))
      | exact ih0 _ _ _ _ _
      | exact LeO.none _
      | refine LeO.ite ?_ ?_
      | refine LeO.bind ?_ (fun _ => ?_)
set_option maxHeartbeats 8000000 in
set_option maxRecDepth 100000 in
theorem offers_Held.calls (k : Nat) (A0 : Option Addr) (c0 : Nat) (l0 : List (S26)) (a1 : Int) (r : Int) (w : World) (hr0 : Kd.C k26 w A0 l0.length l0) (hc0 : l0.length ≤ c0) (h : offers_Held.f k l0 a1 = some r) :
    Calls Try.prog 19 #[.slice A0 l0.length c0, .int .i64 a1] w fun e w' => e = .returned (.int .i64 r) ∧ Below w.heap.size w w' := by
  have hu26 := Try.underlying26
  have HR0 := Aside0.mk hr0
  have HC0 := Aside0.mk hc0
  clear hr0 hc0
  have HB := Aside0.mk (Below.refl w.heap.size w)
  have H : (if a1 < 0 then (some 0) else (offers_Held.l0 k a1 0 l0 (l0.length : Int) 0)) = some r := h
  clear h
  by_cases c3 : a1 < 0
  · rw [if_pos c3] at H
    have c3b0 : decide (a1 < 0) = true := decide_eq_true c3
    clear c3
    obtain rfl := Option.some.inj H
    go_enter Try.func19, Try.ntmps19
    go_wp2
    go_ret
    exact ⟨by first | rfl | (simp [errW_none, errW_some] <;> rfl) | (simp [*, errW_none, errW_some] <;> rfl), by repeat (first | (with_reducible first | exact HB.out | apply below_alloc | apply pw_below_drewN | apply below_drew1) | exact HB.out)⟩
  · rw [if_neg c3] at H
    have c3b0 : decide (a1 < 0) = false := decide_eq_false c3
    clear c3
    have H' := Aside0.mk H
    clear H
    go_enter Try.func19, Try.ntmps19
    go_wp2
    go_loopg [4, 11] k (fun kq v4 v11 w' => ∃ (x4_1 : Int) (x11_1 : Int), v4 = .int .i64 x4_1 ∧ v11 = .int .i64 x11_1 ∧ Aside0 (offers_Held.l0 kq a1 x4_1 l0 (l0.length : Int) x11_1 = some r) ∧ Aside0 (kq ≤ k) ∧ Aside0 (Below w.heap.size w w'))
    case atStart => exact ⟨(0), (0), (by first | rfl | (simp; done) | (simp [*]; done)), (by first | rfl | (simp; done) | (simp [*]; done)), H', ⟨Nat.le_refl _⟩, ⟨by repeat (first | (with_reducible first | exact HB.out | apply below_alloc | apply pw_below_drewN | apply below_drew1) | exact HB.out)⟩⟩
    case round =>
      clear H'
      try clear c1
      try clear p2
      try clear c3
      try clear c3b0
      obtain ⟨x4_1, x11_1, rfl, rfl, HA, HK1, HB⟩ := hrel
      cases gk with
      | zero => exact absurd HA.out (by simp [offers_Held.l0])
      | succ k1 =>
        have H := HA.out
        clear HA
        simp only [offers_Held.l0] at H
        by_cases c4 : x11_1 < (l0.length : Int)
        · rw [if_pos c4] at H
          have c4b0 : decide (x11_1 < (l0.length : Int)) = true := decide_eq_true c4
          clear c4
          by_cases c5 : 0 ≤ x11_1
          · rw [if_pos c5] at H
            have c5b0 : decide (0 ≤ x11_1) = true := decide_eq_true c5
            clear c5
            by_cases c6 : x11_1 < (l0.length : Int)
            · rw [if_pos c6] at H
              have c6b0 : decide (x11_1 < (l0.length : Int)) = true := decide_eq_true c6
              clear c6
              by_cases c7 : ((rd_T26 l0 x11_1).f1.f0) = a1
              · rw [if_pos c7] at H
                have c7b0 : (((rd_T26 l0 x11_1).f1.f0) == a1) = true := beq_iff_eq.mpr c7
                have c7b1 : (((rd_T26 l0 x11_1).f1.f0) != a1) = false := bne_eq_false_iff_eq.mpr c7
                clear c7
                have H' := Aside0.mk H
                clear H
                have p145 : 0 ≤ (x11_1 : Int) := of_decide_eq_true (by first | (with_reducible assumption) | assumption)
                have q145 : x11_1 < (l0.length : Int) := of_decide_eq_true (by first | (with_reducible assumption) | assumption)
                obtain ⟨ad145, e145, hx145_0, hx145_1, hx145_2, hx145_3⟩ := at_T26 HR0.out x11_1 p145 q145
                cases e145
                replace hx145_0 := (HB.out.cell (World.block_lt_of_cell? w _ hx145_0)).trans hx145_0
                replace hx145_1 := (HB.out.cell (World.block_lt_of_cell? w _ hx145_1)).trans hx145_1
                replace hx145_2 := (HB.out.cell (World.block_lt_of_cell? w _ hx145_2)).trans hx145_2
                replace hx145_3 := (HB.out.cell (World.block_lt_of_cell? w _ hx145_3)).trans hx145_3
                replace p145 := eq_true p145
                replace q145 := eq_true q145
                go_wp2_with (first | ((with_reducible refine gate_dst (N := 6) rfl ?_); refine box_event ?hg (N := 6) ?hd (cs := #[.int .i64 0, .int .i64 0, .int .i64 0, .int .i64 0]) (t := 26) ?hr ?_; (case hd => rfl); (case hg => rfl); (case hr => first | (go_simp; done) | (go_simp; rfl)); intro gb146 hg w8 hbox hb; have n0_ := Aside0.mk (below_step (by repeat (first | (with_reducible first | exact HB.out | apply below_alloc | apply pw_below_drewN | apply below_drew1) | exact HB.out)) hb); have n1_ := Aside0.mk (hbox); have n2_ := Aside0.mk ((by rw [hg]; exact (below_size (by repeat (first | (with_reducible first | exact HB.out | apply below_alloc | apply pw_below_drewN | apply below_drew1) | exact HB.out))) : w.heap.size ≤ gb146)); have n3_ := Aside0.mk ((by rw [hg]; exact (below_size (by repeat (first | (with_reducible first | exact HB.out | apply below_alloc | apply pw_below_drewN | apply below_drew1) | exact HB.out))) : w.heap.size ≤ gb146)); clear HB; have HB := n0_; have BK146 := n1_; have GW146 := n2_; have GE146 := n3_; clear n0_ n1_ n2_ n3_; clear hb hbox hg; have hcz9_0 : w8.cell? ⟨gb146, 0, none⟩ = some (.int .i64 0) := (blk_cell BK146.out 0).trans rfl; have hcz9_1 : w8.cell? ⟨gb146, 1, none⟩ = some (.int .i64 0) := (blk_cell BK146.out 1).trans rfl; have hcz9_2 : w8.cell? ⟨gb146, 2, none⟩ = some (.int .i64 0) := (blk_cell BK146.out 2).trans rfl; have hcz9_3 : w8.cell? ⟨gb146, 3, none⟩ = some (.int .i64 0) := (blk_cell BK146.out 3).trans rfl; have hfz9_0 := blk_frozen BK146.out 0; have hfz9_1 := blk_frozen BK146.out 1; have hfz9_2 := blk_frozen BK146.out 2; have hfz9_3 := blk_frozen BK146.out 3))
                go_roundg k1
                case measure => have := HK1.out; omega
                case rel => exact ⟨(wrap64 (x4_1 + 1)), (wrap64 (x11_1 + 1)), (by first | rfl | (simp; done) | (simp [*]; done)), (by first | rfl | (simp; done) | (simp [*]; done)), H', ⟨by have := HK1.out; omega⟩, ⟨by repeat (first | (with_reducible first | exact HB.out | apply below_alloc | apply pw_below_drewN | apply below_drew1 | refine below_set ?_ GE146.out) | exact HB.out)⟩⟩
              · rw [if_neg c7] at H
                have c7b0 : (((rd_T26 l0 x11_1).f1.f0) == a1) = false := beq_eq_false_iff_ne.mpr c7
                have c7b1 : (((rd_T26 l0 x11_1).f1.f0) != a1) = true := bne_iff_ne.mpr c7
                by_cases c10 : ((rd_T26 l0 x11_1).f1.f1) = a1
                · rw [if_pos c10] at H
                  have c10b0 : (((rd_T26 l0 x11_1).f1.f1) == a1) = true := beq_iff_eq.mpr c10
                  have c10b1 : (((rd_T26 l0 x11_1).f1.f1) != a1) = false := bne_eq_false_iff_eq.mpr c10
                  clear c10
                  have H' := Aside0.mk H
                  clear H
                  have p145 : 0 ≤ (x11_1 : Int) := of_decide_eq_true (by first | (with_reducible assumption) | assumption)
                  have q145 : x11_1 < (l0.length : Int) := of_decide_eq_true (by first | (with_reducible assumption) | assumption)
                  obtain ⟨ad145, e145, hx145_0, hx145_1, hx145_2, hx145_3⟩ := at_T26 HR0.out x11_1 p145 q145
                  cases e145
                  replace hx145_0 := (HB.out.cell (World.block_lt_of_cell? w _ hx145_0)).trans hx145_0
                  replace hx145_1 := (HB.out.cell (World.block_lt_of_cell? w _ hx145_1)).trans hx145_1
                  replace hx145_2 := (HB.out.cell (World.block_lt_of_cell? w _ hx145_2)).trans hx145_2
                  replace hx145_3 := (HB.out.cell (World.block_lt_of_cell? w _ hx145_3)).trans hx145_3
                  replace p145 := eq_true p145
                  replace q145 := eq_true q145
                  go_wp2_with (first | ((with_reducible refine gate_dst (N := 6) rfl ?_); refine box_event ?hg (N := 6) ?hd (cs := #[.int .i64 0, .int .i64 0, .int .i64 0, .int .i64 0]) (t := 26) ?hr ?_; (case hd => rfl); (case hg => rfl); (case hr => first | (go_simp; done) | (go_simp; rfl)); intro gb146 hg w11 hbox hb; have n0_ := Aside0.mk (below_step (by repeat (first | (with_reducible first | exact HB.out | apply below_alloc | apply pw_below_drewN | apply below_drew1) | exact HB.out)) hb); have n1_ := Aside0.mk (hbox); have n2_ := Aside0.mk ((by rw [hg]; exact (below_size (by repeat (first | (with_reducible first | exact HB.out | apply below_alloc | apply pw_below_drewN | apply below_drew1) | exact HB.out))) : w.heap.size ≤ gb146)); have n3_ := Aside0.mk ((by rw [hg]; exact (below_size (by repeat (first | (with_reducible first | exact HB.out | apply below_alloc | apply pw_below_drewN | apply below_drew1) | exact HB.out))) : w.heap.size ≤ gb146)); clear HB; have HB := n0_; have BK146 := n1_; have GW146 := n2_; have GE146 := n3_; clear n0_ n1_ n2_ n3_; clear hb hbox hg; have hcz12_0 : w11.cell? ⟨gb146, 0, none⟩ = some (.int .i64 0) := (blk_cell BK146.out 0).trans rfl; have hcz12_1 : w11.cell? ⟨gb146, 1, none⟩ = some (.int .i64 0) := (blk_cell BK146.out 1).trans rfl; have hcz12_2 : w11.cell? ⟨gb146, 2, none⟩ = some (.int .i64 0) := (blk_cell BK146.out 2).trans rfl; have hcz12_3 : w11.cell? ⟨gb146, 3, none⟩ = some (.int .i64 0) := (blk_cell BK146.out 3).trans rfl; have hfz12_0 := blk_frozen BK146.out 0; have hfz12_1 := blk_frozen BK146.out 1; have hfz12_2 := blk_frozen BK146.out 2; have hfz12_3 := blk_frozen BK146.out 3))
                  go_roundg k1
                  case measure => have := HK1.out; omega
                  case rel => exact ⟨(wrap64 (x4_1 + 1)), (wrap64 (x11_1 + 1)), (by first | rfl | (simp; done) | (simp [*]; done)), (by first | rfl | (simp; done) | (simp [*]; done)), H', ⟨by have := HK1.out; omega⟩, ⟨by repeat (first | (with_reducible first | exact HB.out | apply below_alloc | apply pw_below_drewN | apply below_drew1 | refine below_set ?_ GE146.out) | exact HB.out)⟩⟩
                · rw [if_neg c10] at H
                  have c10b0 : (((rd_T26 l0 x11_1).f1.f1) == a1) = false := beq_eq_false_iff_ne.mpr c10
                  have c10b1 : (((rd_T26 l0 x11_1).f1.f1) != a1) = true := bne_iff_ne.mpr c10
                  have H' := Aside0.mk H
                  clear H
                  have p145 : 0 ≤ (x11_1 : Int) := of_decide_eq_true (by first | (with_reducible assumption) | assumption)
                  have q145 : x11_1 < (l0.length : Int) := of_decide_eq_true (by first | (with_reducible assumption) | assumption)
                  obtain ⟨ad145, e145, hx145_0, hx145_1, hx145_2, hx145_3⟩ := at_T26 HR0.out x11_1 p145 q145
                  cases e145
                  replace hx145_0 := (HB.out.cell (World.block_lt_of_cell? w _ hx145_0)).trans hx145_0
                  replace hx145_1 := (HB.out.cell (World.block_lt_of_cell? w _ hx145_1)).trans hx145_1
                  replace hx145_2 := (HB.out.cell (World.block_lt_of_cell? w _ hx145_2)).trans hx145_2
                  replace hx145_3 := (HB.out.cell (World.block_lt_of_cell? w _ hx145_3)).trans hx145_3
                  replace p145 := eq_true p145
                  replace q145 := eq_true q145
                  go_wp2_with (first | ((with_reducible refine gate_dst (N := 6) rfl ?_); refine box_event ?hg (N := 6) ?hd (cs := #[.int .i64 0, .int .i64 0, .int .i64 0, .int .i64 0]) (t := 26) ?hr ?_; (case hd => rfl); (case hg => rfl); (case hr => first | (go_simp; done) | (go_simp; rfl)); intro gb146 hg w13 hbox hb; have n0_ := Aside0.mk (below_step (by repeat (first | (with_reducible first | exact HB.out | apply below_alloc | apply pw_below_drewN | apply below_drew1) | exact HB.out)) hb); have n1_ := Aside0.mk (hbox); have n2_ := Aside0.mk ((by rw [hg]; exact (below_size (by repeat (first | (with_reducible first | exact HB.out | apply below_alloc | apply pw_below_drewN | apply below_drew1) | exact HB.out))) : w.heap.size ≤ gb146)); have n3_ := Aside0.mk ((by rw [hg]; exact (below_size (by repeat (first | (with_reducible first | exact HB.out | apply below_alloc | apply pw_below_drewN | apply below_drew1) | exact HB.out))) : w.heap.size ≤ gb146)); clear HB; have HB := n0_; have BK146 := n1_; have GW146 := n2_; have GE146 := n3_; clear n0_ n1_ n2_ n3_; clear hb hbox hg; have hcz14_0 : w13.cell? ⟨gb146, 0, none⟩ = some (.int .i64 0) := (blk_cell BK146.out 0).trans rfl; have hcz14_1 : w13.cell? ⟨gb146, 1, none⟩ = some (.int .i64 0) := (blk_cell BK146.out 1).trans rfl; have hcz14_2 : w13.cell? ⟨gb146, 2, none⟩ = some (.int .i64 0) := (blk_cell BK146.out 2).trans rfl; have hcz14_3 : w13.cell? ⟨gb146, 3, none⟩ = some (.int .i64 0) := (blk_cell BK146.out 3).trans rfl; have hfz14_0 := blk_frozen BK146.out 0; have hfz14_1 := blk_frozen BK146.out 1; have hfz14_2 := blk_frozen BK146.out 2; have hfz14_3 := blk_frozen BK146.out 3))
                  go_roundg k1
                  case measure => have := HK1.out; omega
                  case rel => exact ⟨(x4_1), (wrap64 (x11_1 + 1)), (by first | rfl | (simp; done) | (simp [*]; done)), (by first | rfl | (simp; done) | (simp [*]; done)), H', ⟨by have := HK1.out; omega⟩, ⟨by repeat (first | (with_reducible first | exact HB.out | apply below_alloc | apply pw_below_drewN | apply below_drew1 | refine below_set ?_ GE146.out) | exact HB.out)⟩⟩
            · rw [if_neg c6] at H
              exact absurd H (by simp)
          · rw [if_neg c5] at H
            exact absurd H (by simp)
        · rw [if_neg c4] at H
          have c4b0 : decide (x11_1 < (l0.length : Int)) = false := decide_eq_false c4
          clear c4
          obtain rfl := Option.some.inj H
          go_wp2
          go_ret
          exact ⟨by first | rfl | (simp [errW_none, errW_some] <;> rfl) | (simp [*, errW_none, errW_some] <;> rfl), by repeat (first | (with_reducible first | exact HB.out | apply below_alloc | apply pw_below_drewN | apply below_drew1) | exact HB.out)⟩

end Go.Proofs.Ytnegohkckgfbiaa.X
-- written by wip/xprint.py out of the translation (the kit's printer, driven)
namespace Go.Proofs.Ytnegohkckgfbiaa.X
open Go.RowKit Go.Proofs.YtnegohkckgfbiaaW.PrintWords Go.Proofs.YtnegohkckgfbiaaW.PrintLast Go.Proofs.YtnegohkckgfbiaaW.PrintMore
attribute [local go_sem] cell_twice max2_int min2_int max_two min_two max_three min_three max_four min_four   -- for this text's walks alone
set_option linter.unusedVariables false
set_option linter.unusedSimpArgs false

/-! ### api_Offer_34: function 34 -/
--import Derived.Test.YtnegohkckgfbiaaDel
def api_Offer_34.f (l0 : List (S26)) (a1 : Int) (a2 : Int) : Option (List (S26)) := if 0 ≤ a1 ∧ a1 < l0.length ∧ a2 = a1 + 1 then some (l0.take a1.toNat ++ l0.drop (a1.toNat + 1)) else none
theorem api_Offer_34.calls (P0_ : Nat → Prop) (u9000_ : Value) (l0 : List (S26)) (a1 : Int) (a2 : Int) (r : List (S26)) (w0 w : World) (hB : Below w0.heap.size w0 w) (ho0 : Kd.R k26 26 w w0.heap.size P0_ u9000_ l0) (h : api_Offer_34.f l0 a1 a2 = some r) :
    Calls Try.prog 34 #[u9000_, .int .i64 a1, .int .i64 a2] w fun e w' => ∃ v0_ : Value, e = .returned v0_ ∧ Kd.R k26 26 w' w0.heap.size (fun k_ => (P0_ k_ ∨ w.heap.size ≤ k_)) v0_ r ∧ Below w0.heap.size w0 w' ∧ Kept w w' (fun k_ => P0_ k_) := by
  unfold api_Offer_34.f at h
  by_cases hb : 0 ≤ a1 ∧ a1 < l0.length ∧ a2 = a1 + 1
  · rw [if_pos hb] at h
    obtain rfl := Option.some.inj h
    obtain ⟨h0, h1, rfl⟩ := hb
    obtain ⟨i, rfl⟩ := Int.eq_ofNat_of_zero_le h0
    rw [Int.toNat_natCast]
    have hi : i < l0.length := by omega
    obtain ⟨A, c, rfl⟩ := Kd.R_slice ho0
    have hf0 := flat_of_R ho0
    refine (Del.del w w0.heap.size l0.length c i A (l0.flatMap enc26) hi hf0 (Flat.flat_one enc26_one l0)).mono ?_
    rintro e w' ⟨v', rfl, hown, hgr, hat⟩
    have hlen : (l0.take i ++ l0.drop (i + 1)).length = l0.length - 1 := by simp only [List.length_append, List.length_take, List.length_drop]; omega
    have hflat : (l0.flatMap enc26).take (i * 4) ++ (l0.flatMap enc26).drop ((i + 1) * 4) = (l0.take i ++ l0.drop (i + 1)).flatMap enc26 := by
      rw [Flat.flat_take enc26_len, Flat.flat_drop enc26_len, List.flatMap_append]
    rw [hflat, ← hlen] at hown
    have hS : ∀ k, (Value.slice A l0.length c).ownBlock = some k → P0_ k := ho0.1
    refine ⟨v', rfl, R_of_flat hown (fun k hk => .inl (hS k (by rw [← hat]; exact hk))), hB.trans (Blk.below_of_grown hgr hB.size (fun k hk => own_base hf0 k hk)), ?_⟩
    exact ⟨hgr.size, fun k hk hn => hgr.block k hk (fun he => hn (hS k he.symm))⟩
  · rw [if_neg hb] at h
    cases h


end Go.Proofs.Ytnegohkckgfbiaa.X
-- written by wip/xprint.py out of the translation (the kit's printer, driven)
namespace Go.Proofs.Ytnegohkckgfbiaa.X
open Go.RowKit Go.Proofs.YtnegohkckgfbiaaW.PrintWords Go.Proofs.YtnegohkckgfbiaaW.PrintLast Go.Proofs.YtnegohkckgfbiaaW.PrintMore
attribute [local go_sem] cell_twice max2_int min2_int max_two min_two max_three min_three max_four min_four   -- for this text's walks alone
set_option linter.unusedVariables false
set_option linter.unusedSimpArgs false

/-! ### offers_Take: function 21 -/
--import Derived.Lib.Hide
--import Derived.Outline
attribute [local go_sem high] eqA24
/-! The search for an offer. -/
def isOffer (student sec lab : Int) (x : S26) : Bool := x.f0 == student && (x.f1.f0 == sec && x.f1.f1 == lab)
def idxFrom (p : S26 → Bool) : List S26 → Nat → Int
  | [], _ => -1
  | x :: r, i => if p x then (i : Int) else idxFrom p r (i + 1)
theorem idxFrom_step (p : S26 → Bool) (l : List S26) (i : Nat) (h : i < l.length) : idxFrom p (l.drop i) i = if p (rd_T26 l (i : Int)) then (i : Int) else idxFrom p (l.drop (i + 1)) (i + 1) := by
  rw [List.drop_eq_getElem_cons h]
  have : rd_T26 l (i : Int) = l[i] := by simp [rd_T26, List.getD_eq_getElem?_getD, List.getElem?_eq_getElem h]
  rw [this]
  rfl
def Is (b : Bool) (w : World) (e : Ending) (w' : World) : Prop := e = .returned (.bool b) ∧ Below w.heap.size w w'
set_option maxHeartbeats 1000000 in
set_option maxRecDepth 100000 in
theorem take1 (x : S26) (B1 B2 : Nat) (student sec lab : Int) (w : World) (h1 : w.heap[B1]? = some (.cells #[.int .i64 student] 3 (0, 0))) (h2 : w.heap[B2]? = some (.cells #[.int .i64 sec, .int .i64 lab] 24 (0, 0))) :
    Calls Try.prog 33 #[.agg #[.int .i64 x.f0, .int .i64 x.f1.f0, .int .i64 x.f1.f1, .int .i64 x.f2], .pointer (some ⟨B1, 0, none⟩), .pointer (some ⟨B2, 0, none⟩)] w (Is (isOffer student sec lab x) w) := by
  have c1 : w.cell? ⟨B1, 0, none⟩ = some (.int .i64 student) := blk_cell h1 0
  have c2 : w.cell? ⟨B2, 0, none⟩ = some (.int .i64 sec) := blk_cell h2 0
  have c3 : w.cell? ⟨B2, 1, none⟩ = some (.int .i64 lab) := blk_cell h2 1
  have l1 := blk_lt h1
  have l2 := blk_lt h2
  clear h1 h2
  have HB' := Aside0.mk (show Below w.heap.size w (w.alloc (.cells #[.int .i64 x.f0, .int .i64 x.f1.f0, .int .i64 x.f1.f1, .int .i64 x.f2] 26)) from (Below.refl _ w).alloc (Nat.le_refl _) _)
  by_cases e0 : x.f0 = student
  · have F := Lib.hid (show Is (isOffer student sec lab x) w (.returned (.bool (x.f1.f0 == sec && x.f1.f1 == lab))) _ from ⟨by simp [isOffer, e0], HB'.out⟩)
    have d0 : (x.f0 == student) = true := by simpa using e0
    clear e0
    go_enter Try.func33, Try.ntmps33
    go_wp2
    go_ret
    exact F.out
  · have F := Lib.hid (show Is (isOffer student sec lab x) w (.returned (.bool false)) _ from ⟨by simp [isOffer, e0], HB'.out⟩)
    have d0 : (x.f0 == student) = false := by simpa using e0
    clear e0
    go_enter Try.func33, Try.ntmps33
    go_wp2
    go_ret
    exact F.out
def IdxEnd (w : World) (r : Int) (e : Ending) (w' : World) : Prop := e = .returned (.int .i64 r) ∧ Below w.heap.size w w'
set_option maxHeartbeats 2000000 in
set_option maxRecDepth 100000 in
theorem idx_calls (A : Option Addr) (c : Nat) (l : List S26) (B1 B2 : Nat) (student sec lab : Int) (w : World) (hr : Kd.C k26 w A l.length l) (hc : l.length ≤ c) (h1 : w.heap[B1]? = some (.cells #[.int .i64 student] 3 (0, 0))) (h2 : w.heap[B2]? = some (.cells #[.int .i64 sec, .int .i64 lab] 24 (0, 0))) :
    Calls Try.prog 32 #[.slice A l.length c, .func (.func 33) #[] #[.pointer (some ⟨B1, 0, none⟩), .pointer (some ⟨B2, 0, none⟩)]] w (IdxEnd w (idxFrom (isOffer student sec lab) l 0)) := by
  have hn := hr.2.1
  have F := Lib.hid hr
  have H1 := Lib.hid h1
  have H2 := Lib.hid h2
  obtain ⟨R, hR⟩ : ∃ R, idxFrom (isOffer student sec lab) l 0 = R := ⟨_, rfl⟩
  rw [hR]
  have HR := Lib.hid hR
  clear hr h1 h2 hR
  go_enter Try.func32, Try.ntmps32
  go_wp2
  go_loopw [8] (fun i wr => ∃ a : Nat, i = .int .i64 a ∧ a ≤ l.length ∧ Aside0 (idxFrom (isOffer student sec lab) (l.drop a) a = R) ∧ Aside0 (Below w.heap.size w wr)) (fun i _ => l.length - (intOf i).toNat)
  case atStart => exact ⟨0, rfl, Nat.zero_le _, ⟨HR.out⟩, ⟨Below.refl _ w⟩⟩
  case round =>
    obtain ⟨a, rfl, hal, HA, HW⟩ := hrel
    by_cases hlt : a < l.length
    · obtain ⟨y, hy⟩ : ∃ y, rd_T26 l (a : Int) = y := ⟨_, rfl⟩
      obtain ⟨ad, rfl, c0, c1, c2, c3⟩ := at_T26 (Kd.C_below F.out HW.out) (a : Int) (by omega) (by omega)
      simp only [Int.toNat_natCast, hy] at c0 c1 c2 c3
      have hA := HA.out
      rw [idxFrom_step _ _ _ hlt, hy] at hA
      have hb1 : wr.heap[B1]? = some (.cells #[.int .i64 student] 3 (0, 0)) := (HW.out.block _ (blk_lt H1.out)).trans H1.out
      have hb2 : wr.heap[B2]? = some (.cells #[.int .i64 sec, .int .i64 lab] 24 (0, 0)) := (HW.out.block _ (blk_lt H2.out)).trans H2.out
      have hcall := Lib.hid (take1 y B1 B2 student sec lab wr hb1 hb2)
      clear HA hy hb1 hb2
      cases hq : isOffer student sec lab y with
      | true =>
        rw [hq] at hA hcall
        have hA1 : R = (a : Int) := by simpa using hA.symm
        have HA2 := Lib.hid hA1
        clear hA hA1 hq
        go_wp2_with (go_at_call 33; refine hcall.out.mono ?_; rintro e w' ⟨rfl, hb⟩)
        go_ret
        exact ⟨by rw [HA2.out]; rfl, below_step HW.out hb⟩
      | false =>
        rw [hq] at hA hcall
        simp only [Bool.false_eq_true, if_false] at hA
        have HA2 := Lib.hid hA
        clear hA hq
        go_wp2_with (go_at_call 33; refine hcall.out.mono ?_; rintro e w' ⟨rfl, hb⟩)
        go_roundw
        case rel => exact ⟨a + 1, by go_num, by omega, ⟨HA2.out⟩, ⟨below_step HW.out hb⟩⟩
        case measure => simp [intOf]; omega
    · obtain rfl : a = l.length := by omega
      have hA := HA.out
      rw [List.drop_length] at hA
      have HA2 := Lib.hid (show R = -1 from hA.symm)
      clear hA HA
      go_wp2
      go_ret
      exact ⟨by rw [HA2.out]; rfl, HW.out⟩
theorem idxFrom_range (p : S26 → Bool) : ∀ (l : List S26) (i : Nat), idxFrom p l i = -1 ∨ (i : Int) ≤ idxFrom p l i ∧ idxFrom p l i < (i : Int) + l.length
  | [], i => .inl rfl
  | x :: r, i => by
    unfold idxFrom
    cases p x
    · simp only [Bool.false_eq_true, if_false]
      rcases idxFrom_range p r (i + 1) with h | h
      · exact .inl h
      · right
        rw [List.length_cons]
        omega
    · simp only [if_true]
      right
      rw [List.length_cons]
      omega
def offers_Take.f (k : Nat) (l0 : List (S26)) (a1 : Int) (a2_0 : Int) (a2_1 : Int) (a3 : Int) : Option ((List (S26)) × Int) := (offers_Check.f k l0).bind fun t => if t = 0 then (if idxFrom (isOffer a1 a2_0 a2_1) l0 0 < 0 then some ([], 310) else if a3 ≥ (rd_T26 l0 (idxFrom (isOffer a1 a2_0 a2_1) l0 0)).f2 then some ([], 310) else (api_Offer_27.f l0).bind fun y => (api_Offer_34.f y (idxFrom (isOffer a1 a2_0 a2_1) l0 0) (idxFrom (isOffer a1 a2_0 a2_1) l0 0 + 1)).bind fun z => some (z, 0)) else some ([], 310)
theorem offers_Take.mono : ∀ a0 a1 a2 a3 a4 k, LeO (offers_Take.f k a0 a1 a2 a3 a4) (offers_Take.f (k + 1) a0 a1 a2 a3 a4) := by
  intro a0 a1 a2 a3 a4 k
  unfold offers_Take.f
  exact LeO.bind (offers_Check.mono _ _) (fun _ => LeO.refl _)
def TakeEnd (w : World) (r1 : List S26) (r2 : Int) (e : Ending) (w' : World) : Prop := ∃ v0_ : Value, e = .returned (.tuple #[v0_, .int .i64 r2]) ∧ Kd.R k26 26 w' w.heap.size (fun _ => True) v0_ r1 ∧ Below w.heap.size w w'
set_option maxHeartbeats 4000000 in
set_option maxRecDepth 100000 in
theorem offers_Take.calls (k : Nat) (A0 : Option Addr) (c0 : Nat) (l0 : List (S26)) (a1 : Int) (a2_0 : Int) (a2_1 : Int) (a3 : Int) (r1 : List (S26)) (r2 : Int) (w : World) (hr0 : Kd.C k26 w A0 l0.length l0) (hc0 : l0.length ≤ c0) (h : offers_Take.f k l0 a1 a2_0 a2_1 a3 = some (r1, r2)) :
    Calls Try.prog 21 #[.slice A0 l0.length c0, .int .i64 a1, .agg #[.int .i64 a2_0, .int .i64 a2_1], .int .i64 a3] w fun e w' => ∃ v0_ : Value, e = .returned (.tuple #[v0_, .int .i64 r2]) ∧ Kd.R k26 26 w' w.heap.size (fun _ => True) v0_ r1 ∧ Below w.heap.size w w' := by
  show Calls Try.prog 21 _ w (TakeEnd w r1 r2)
  have hn := hr0.2.1
  have F := Lib.hid hr0
  clear hr0
  obtain ⟨t, hC, h⟩ := Option.bind_eq_some_iff.mp h
  have HC := Lib.hid hC
  clear hC
  obtain ⟨W0, hW0⟩ : ∃ W0, W0 = (w.alloc (.cells #[.int .i64 a1] 3)).alloc (.cells #[.int .i64 a2_0, .int .i64 a2_1] 24) := ⟨_, rfl⟩
  have HB0 := Aside0.mk (show Below w.heap.size w W0 by rw [hW0]; exact ((Below.refl _ w).alloc (Nat.le_refl _) _).alloc (by simp) _)
  have hb1 : W0.heap[w.heap.size]? = some (.cells #[.int .i64 a1] 3 (0, 0)) := by
    rw [hW0]
    exact blk_alloc (heap_alloc_new w _) _
  have hb2 : W0.heap[w.heap.size + 1]? = some (.cells #[.int .i64 a2_0, .int .i64 a2_1] 24 (0, 0)) := by
    rw [hW0]
    have := heap_alloc_new (w.alloc (.cells #[.int .i64 a1] 3)) (.cells #[.int .i64 a2_0, .int .i64 a2_1] 24)
    simpa using this
  have HB1 := Aside0.mk hb1
  have HB2 := Aside0.mk hb2
  have HW0 := Lib.hid hW0
  clear hb1 hb2 hW0
  go_enter Try.func21, Try.ntmps21
  go_wp2_with fail
  rw [← HW0.out]
  refine (offers_Check.calls k _ _ l0 t _ (Kd.C_below F.out HB0.out) hc0 HC.out).mono ?_
  rintro e w1 ⟨rfl, hb1⟩
  have HW1 := Aside0.mk (below_step HB0.out hb1)
  have K1 := Aside0.mk (blk_below HB1.out hb1)
  have K2 := Aside0.mk (blk_below HB2.out hb1)
  clear HB1 HB2 hb1 HW0 HB0
  by_cases ht : t = 0
  · subst ht
    rw [if_pos rfl] at h
    have hrange := idxFrom_range (isOffer a1 a2_0 a2_1) l0 0
    obtain ⟨R, hR⟩ : ∃ R, idxFrom (isOffer a1 a2_0 a2_1) l0 0 = R := ⟨_, rfl⟩
    rw [hR] at h hrange
    have HR := Lib.hid hR
    clear hR
    have hidx := Lib.hid (fun (W : World) (hB : Below w.heap.size w W) (h1 : W.heap[w.heap.size]? = some (.cells #[.int .i64 a1] 3 (0, 0))) (h2 : W.heap[w.heap.size + 1]? = some (.cells #[.int .i64 a2_0, .int .i64 a2_1] 24 (0, 0))) => idx_calls A0 c0 l0 w.heap.size (w.heap.size + 1) a1 a2_0 a2_1 W (Kd.C_below F.out hB) hc0 h1 h2)
    by_cases hneg : R < 0
    · rw [if_pos hneg] at h
      simp only [Option.some.injEq, Prod.mk.injEq] at h
      obtain ⟨rfl, rfl⟩ := h
      have hd : decide (R < 0) = true := by simpa using hneg
      go_wp2_with (go_at_call 32; refine (hidx.out _ HW1.out K1.out K2.out).mono ?_; rw [HR.out]; rintro e w2 ⟨rfl, hb2⟩)
      go_ret2
      exact ⟨_, rfl, Kd.R_nil _ _ _ _ _, below_step HW1.out hb2⟩
    · rw [if_neg hneg] at h
      obtain ⟨i, rfl⟩ := Int.eq_ofNat_of_zero_le (show 0 ≤ R by omega)
      have hi : i < l0.length := by omega
      have hd : decide ((i : Int) < 0) = false := by simp
      obtain ⟨y, hy⟩ : ∃ y, rd_T26 l0 (i : Int) = y := ⟨_, rfl⟩
      rw [hy] at h
      have HY := Lib.hid hy
      clear hy hrange hneg
      by_cases hlate : a3 ≥ y.f2
      · rw [if_pos hlate] at h
        simp only [Option.some.injEq, Prod.mk.injEq] at h
        obtain ⟨rfl, rfl⟩ := h
        have hl : decide (y.f2 ≤ a3) = true := by simpa using hlate
        go_wp2_with (go_at_call 32; refine (hidx.out _ HW1.out K1.out K2.out).mono ?_; rw [HR.out]; rintro e w2 ⟨rfl, hb2⟩; obtain ⟨ad, rfl, c0', c1', c2', c3'⟩ := at_T26 (Kd.C_below F.out (below_step HW1.out hb2)) (i : Int) (by omega) (by omega); simp only [Int.toNat_natCast, HY.out] at c3'; clear c0' c1' c2')
        go_ret2
        exact ⟨_, rfl, Kd.R_nil _ _ _ _ _, below_step HW1.out (by assumption)⟩
      · rw [if_neg hlate] at h
        obtain ⟨z, hz, h⟩ := Option.bind_eq_some_iff.mp h
        obtain ⟨z2, hz2, h⟩ := Option.bind_eq_some_iff.mp h
        simp only [Option.some.injEq, Prod.mk.injEq] at h
        obtain ⟨rfl, rfl⟩ := h
        have hl : decide (y.f2 ≤ a3) = false := by simpa using hlate
        have HZ := Lib.hid hz
        have HZ2 := Lib.hid hz2
        clear hz hz2 hlate
        go_wp2_with (go_at_call 32; refine (hidx.out _ HW1.out K1.out K2.out).mono ?_; rw [HR.out]; rintro e w2 ⟨rfl, hb2⟩; have HW2 := Aside0.mk (below_step HW1.out hb2); clear hb2; obtain ⟨ad, rfl, c0', c1', c2', c3'⟩ := at_T26 (Kd.C_below F.out HW2.out) (i : Int) (by omega) (by omega); simp only [Int.toNat_natCast, HY.out] at c3'; clear c0' c1' c2')
        refine (api_Offer_27.calls _ _ l0 z _ (Kd.C_below F.out HW2.out) hc0 HZ.out).mono ?_
        rintro e w3 ⟨v3, rfl, hR3, hb3⟩
        have HW3 := Aside0.mk (below_step HW2.out hb3)
        have HR3 := Aside0.mk (Kd.R_lower hR3 HW2.out.size)
        clear hR3 hb3
        go_wp2_with fail
        refine (api_Offer_34.calls (fun _ => True) v3 z (i : Int) ((i : Int) + 1) z2 w _ HW3.out HR3.out HZ2.out).mono ?_
        rintro e w4 ⟨v4, rfl, hR4, hb4, _⟩
        have HW4 := Aside0.mk hb4
        have HR4 := Aside0.mk (Kd.R_mono (ok' := fun _ => True) hR4 (fun _ _ => trivial))
        clear hR4 hb4
        go_wp2
        go_ret2
        exact ⟨_, rfl, HR4.out, HW4.out⟩
  · rw [if_neg ht] at h
    simp only [Option.some.injEq, Prod.mk.injEq] at h
    obtain ⟨rfl, rfl⟩ := h
    have hd : (t != 0) = true := by simpa using ht
    clear ht
    go_wp2
    go_ret2
    exact ⟨_, rfl, Kd.R_nil _ _ _ _ _, HW1.out⟩


end Go.Proofs.Ytnegohkckgfbiaa.X
