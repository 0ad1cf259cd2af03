-- Packed by wip/pack.py.
import Derived.Test.Ytjffojmpfdoodaaqb5
/-
  A row of elements that leads to no block g does not begin in g.
-/
set_option linter.unusedVariables false
set_option linter.unusedSimpArgs false
namespace Go.Proofs.YtjffojmpfdoodaaW.PrintLast
open Go.RowKit Go.Proofs.YtjffojmpfdoodaaW.PrintWords
/-- A row of elements that leads to no block g (what it leads to is told) does not begin in g. -/
theorem Kd.V_blk {α : Type} {d : Kd α} {e base n c g : Nat} {ok : Nat → Prop} {W : World} {ad : Addr} {xs : List α} {s : Nat} (h : Kd.V d e W base (fun k => ok k ∧ k ≠ g) (.slice (some ad) n c) xs) (hn : 0 < xs.length) (hs : d.sz = s + 1) : ad.block ≠ g := by
  rintro rfl
  obtain ⟨_, _, hf⟩ := Kd.V_at h
  have hc : d.C { W with heap := W.heap.setIfInBounds ad.block (.cells #[] e) } (some ad) xs.length xs := hf _ (fun k hk hlt => by
    show (W.heap.setIfInBounds ad.block _)[k]? = _
    rw [Array.getElem?_setIfInBounds_ne (Ne.symm hk.2)])
  obtain ⟨_, _, hr⟩ := hc
  obtain ⟨ad', e', hc⟩ := hr hn
  cases e'
  obtain ⟨cs, hl, _, hcell⟩ := hc 0 _ (List.getElem?_eq_getElem hn)
  have h0 := hcell 0 _ (List.getElem?_eq_getElem (show 0 < cs.length by omega))
  have hb : (ad.add (0 * d.sz + 0)).block = ad.block := add_block _ _
  unfold World.cell? at h0
  rw [hb] at h0
  by_cases hlt : ad.block < W.heap.size
  · rw [show ({ W with heap := W.heap.setIfInBounds ad.block (.cells #[] e) } : World).heap[ad.block]? = some (.cells #[] e) from by simp [hlt]] at h0
    simp at h0
  · rw [show ({ W with heap := W.heap.setIfInBounds ad.block (.cells #[] e) } : World).heap[ad.block]? = none from by simp; omega] at h0
    cases h0
end Go.Proofs.YtjffojmpfdoodaaW.PrintLast
