-- Shared by this seat's claims: the words, what the printer printed, and the given functions' own texts, packed by wip/pack.py.
import Derived.Test.Ytccmjndldffclaaqlb5
-- What the parameters' types of this seat read as.
namespace Go.Proofs.Ytccmjndldffclaa.X
open Go.RowKit Go.Proofs.YtccmjndldffclaaW.PrintWords Go.Proofs.YtccmjndldffclaaW.Opn
theorem op3 : Opens Try.prog 3 (Kd.int .i64) (fun _ => True) := (Opens.int (by kernel_rfl) (by kernel_rfl)).imp (fun _ _ => trivial)
theorem op5 : Opens Try.prog 5 (Kd.int .u8) (fun _ => True) := (Opens.int (by kernel_rfl) (by kernel_rfl)).imp (fun _ _ => trivial)
theorem op26 : Opens Try.prog 26 (Kd.slice 5 (Kd.int .u8)) (fun _ => True) := (Opens.slice op5 (by kernel_rfl) (by kernel_rfl)).imp (fun _ _ => trivial)
theorem op28 : Opens Try.prog 28 k28 (fun _ => True) :=
  ((Opens.struct Try.underlying28 (by kernel_rfl) (OpensFs.cons op3 (OpensFs.cons op3 (OpensFs.last op26)))).iso _ (fun x => ⟨x.1, x.2.1, x.2.2⟩) (fun _ => rfl)).imp (fun _ _ => trivial)
theorem c3 : Try.prog.cellsOf 3 = 1 := by kernel_rfl
theorem op55 : Opens Try.prog 55 k55 (fun _ => True) :=
  ((Opens.array (n := 2) Try.underlying55 (by kernel_rfl) (by rw [c3]; exact OpensFs.cons op3 (OpensFs.last op3))).iso _ (fun x => ⟨x.1, x.2⟩) (fun _ => rfl)).imp (fun _ _ => trivial)
/-- The links: packets on their way, pairs that are cut. -/
structure SN where
  q : List S28
  l : List S55
def kN : Kd SN := Kd.iso (Kd.pair (Kd.slice 28 k28) (Kd.slice 55 k55)) (fun x : SN => (x.q, x.l))
theorem kN_open {w : World} {x : SN} {cs : List Value} (h : kN.K w x cs) : ∃ A0 c0 A1 c1, cs = [.slice A0 x.q.length c0, .slice A1 x.l.length c1] ∧ x.q.length ≤ c0 ∧ k28.C w A0 x.q.length x.q ∧ x.l.length ≤ c1 ∧ k55.C w A1 x.l.length x.l := by
  obtain ⟨_, _, rfl, ⟨A0, c0, rfl, l0, g0⟩, ⟨A1, c1, rfl, l1, g1⟩⟩ := h
  exact ⟨A0, c0, A1, c1, rfl, l0, g0, l1, g1⟩
theorem op22 : Opens Try.prog 22 (Kd.slice 28 k28) (fun _ => True) := (Opens.slice op28 (by kernel_rfl) (by kernel_rfl)).imp (fun _ _ => trivial)
theorem op23 : Opens Try.prog 23 (Kd.slice 55 k55) (fun _ => True) := (Opens.slice op55 (by kernel_rfl) (by kernel_rfl)).imp (fun _ _ => trivial)
theorem op25 : Opens Try.prog 25 kN (fun _ => True) :=
  ((Opens.struct Try.underlying25 (by kernel_rfl) (OpensFs.cons op22 (OpensFs.last op23))).iso _ (fun x => ⟨x.1, x.2⟩) (fun _ => rfl)).imp (fun _ _ => trivial)
end Go.Proofs.Ytccmjndldffclaa.X
