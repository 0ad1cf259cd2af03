/- The law PetitionsFactSpec is proved, whatever its input: no condition. -/
import Derived.Test.Ytbnaecdeocbkpaaqfb5
import Derived.ChangeOld
import Derived.OpenShut
import Derived.ProofKit
import Derived.ShutString
import Derived.SizedLaws
import Derived.Test.YtbnaecdeocbkpaaRows
-- What the functions of the packages facts and petitions and of their references compute, in plain lists.
namespace Go.Proofs.Ytbnaecdeocbkpaa.X
open Go.RowKit Go.Proofs.YtbnaecdeocbkpaaW.PrintWords Go.Proofs.YtbnaecdeocbkpaaW.PrintMore
set_option linter.unusedVariables false
set_option linter.unusedSimpArgs false
namespace Z
end Z
end Go.Proofs.Ytbnaecdeocbkpaa.X
-- Fact, the keys of a kind, the comparisons: plain.
namespace Go.Proofs.Ytbnaecdeocbkpaa.X
open Go.RowKit Go.Proofs.YtbnaecdeocbkpaaW.PrintWords Go.Proofs.YtbnaecdeocbkpaaW.PrintMore
set_option linter.unusedVariables false
set_option linter.unusedSimpArgs false
namespace Z
theorem sane : sizarlaw27_sane.f 4000 = some true := by decide +kernel
def valid8 (x : S28) : Bool := decide (1 ≤ x.f0.f0 ∧ x.f0.f0 ≤ 12 ∧ 0 ≤ x.f0.f1 ∧ x.f0.f1 ≤ 20000 ∧ 0 ≤ x.f0.f2 ∧ x.f0.f2 ≤ 20000 ∧ -1 ≤ x.f1 ∧ x.f1 ≤ 1099511627776 ∧ 0 ≤ x.f2.f0 ∧ x.f2.f0 < x.f2.f1 ∧ x.f2.f1 ≤ 1024 ∧ 1 ≤ x.f3 ∧ x.f3 ≤ 16777216 ∧ 0 ≤ x.f4 ∧ x.f4 ≤ 65535)
theorem within_ (a b c : Int) : facts_within.f a b c = some (decide (b ≤ a ∧ a ≤ c)) := by
  unfold facts_within.f
  by_cases h : b ≤ a
  · rw [if_pos h]; congr 1; rw [decide_eq_decide]; simp [h]
  · rw [if_neg h]; congr 1; symm; rw [decide_eq_false_iff_not]; exact fun hc => h hc.1
theorem fits_ (x : S28) : facts_fits.f x.f0.f0 x.f0.f1 x.f0.f2 x.f1 x.f2.f0 x.f2.f1 x.f3 x.f4 = some (valid8 x) := by
  unfold facts_fits.f valid8
  simp only [within_, Option.bind_some, decide_eq_true_eq]
  repeat' split
  all_goals (congr 1; first | (rw [decide_eq_decide]; omega) | (symm; rw [decide_eq_false_iff_not]; omega))
theorem ite_dec (c d : Prop) [Decidable c] [Decidable d] : (if c then some (decide d) else some false) = some (decide (c ∧ d)) := by
  by_cases h : c
  · rw [if_pos h]; congr 1; rw [decide_eq_decide]; simp [h]
  · rw [if_neg h]; congr 1; symm; rw [decide_eq_false_iff_not]; exact fun hc => h hc.1
theorem validR_ (x : S28) : sizarref07_Valid.f x.f0.f0 x.f0.f1 x.f0.f2 x.f1 x.f2.f0 x.f2.f1 x.f3 x.f4 = some (valid8 x) := by
  unfold sizarref07_Valid.f valid8
  simp only [ite_dec]
theorem check1_ (x : S28) : facts_Check.f 20 [x] = some (if valid8 x = true then 0 else 70) := by
  have h : facts_Check_1.f x.f0.f0 x.f0.f1 x.f0.f2 x.f1 x.f2.f0 x.f2.f1 x.f3 x.f4 = some (!valid8 x) := by
    unfold facts_Check_1.f
    rw [fits_, Option.bind_some]
  have hr : rd_T28 [x] 0 = x := rfl
  have hw : wrap64 (0 + 1) = 1 := by unfold wrap64; omega
  have hx : api_Fact_33.f 20 [x] () = some (!valid8 x) := by
    unfold api_Fact_33.f api_Fact_44.f
    rw [api_Fact_44.l0, if_pos (by simp), if_pos (by omega), if_pos (by simp), hr, h, Option.bind_some, hw]
    cases valid8 x with
    | false => rfl
    | true => rfl
  unfold facts_Check.f
  rw [hx, Option.bind_some]
  cases valid8 x with
  | false => rfl
  | true => rfl
theorem checkR1_ (x : S28) (k : Nat) (hk : 5 ≤ k) : sizarref07_Check.f k [x] = some (if valid8 x = true then 0 else 70) := by
  obtain ⟨k, rfl⟩ : ∃ m, k = m + 5 := ⟨k - 5, by omega⟩
  have hr : rd_T28 [x] 0 = x := rfl
  have hw : wrap64 (0 + 1) = 1 := by unfold wrap64; omega
  unfold sizarref07_Check.f
  rw [sizarref07_Check.l0, if_pos (by simp), if_pos (by omega), hr, validR_, Option.bind_some, hw]
  cases valid8 x with
  | false => rfl
  | true => rfl
theorem scoped_ (a0 a1 a2 a3 : Int) (k : Nat) (hk : 5 ≤ k) (h1 : ¬ a1 < 0) (h2 : ¬ a1 ≥ 20000) : sizarref27_Scoped.f k a0 a2 a3 = some (!badF a0 a1 a2 a3) := by
  obtain ⟨k, rfl⟩ : ∃ m, k = m + 5 := ⟨k - 5, by omega⟩
  have hb : badF a0 a1 a2 a3 = decide (a0 < 0 ∨ a0 ≥ 13 ∨ a2 < 0 ∨ a2 ≥ limO a0 ∨ (a3 ≠ -1 ∧ (a3 < 1 ∨ a3 > limM a0))) := by
    unfold badF
    rw [decide_eq_decide]
    omega
  have hom : (a0 = 6 ∨ a0 = 11) ∧ limO a0 = 8 ∧ limM a0 = 1 ∨ (a0 = 7 ∨ a0 = 9) ∧ limO a0 = 4096 ∧ limM a0 = 1099511627776 ∨ a0 = 8 ∧ limO a0 = 4000 ∧ limM a0 = 1099511627776 ∨ a0 = 10 ∧ limO a0 = 1 ∧ limM a0 = 1099511627776 ∨ (a0 ≠ 6 ∧ a0 ≠ 7 ∧ a0 ≠ 8 ∧ a0 ≠ 9 ∧ a0 ≠ 10 ∧ a0 ≠ 11) ∧ limO a0 = 0 := by
    unfold limO limM
    repeat' split
    all_goals omega
  rw [hb]
  clear hb
  generalize limO a0 = o at hom ⊢
  generalize limM a0 = m at hom ⊢
  unfold sizarref27_Scoped.f
  simp only [sizarref27_Scoped.j0, sizarref27_Scoped.j1, sizarref27_Scoped.j2, decide_eq_true_eq, beq_iff_eq, if_true]
  rw [← decide_not]
  repeat' split
  all_goals first
    | omega
    | (congr 1; first | (rw [decide_eq_decide]; omega) | (symm; rw [decide_eq_true_iff]; omega) | (symm; rw [decide_eq_false_iff_not]; omega) | (rw [Bool.eq_iff_iff, beq_iff_eq, decide_eq_true_iff]; omega))
theorem factR_ (a0 a1 a2 a3 a4 a5 a6 a7 : Int) (k : Nat) (hk : 10 ≤ k) : sizarref27_Fact.f k a0 a1 a2 a3 a4 a5 a6 a7 = petitions_Fact.f a0 a1 a2 a3 a4 a5 a6 a7 := by
  obtain ⟨k, rfl⟩ : ∃ m, k = m + 10 := ⟨k - 10, by omega⟩
  unfold sizarref27_Fact.f petitions_Fact.f
  by_cases h1 : a1 < 0
  · have hb : badF a0 a1 a2 a3 = true := by unfold badF; rw [decide_eq_true_iff]; omega
    rw [if_pos h1, if_pos hb, sizarref27_Fact.j0, if_pos rfl]
  · by_cases h2 : a1 ≥ 20000
    · have hb : badF a0 a1 a2 a3 = true := by unfold badF; rw [decide_eq_true_iff]; omega
      rw [if_neg h1, if_pos h2, if_pos hb, sizarref27_Fact.j0, if_pos rfl]
    · rw [if_neg h1, if_neg h2, scoped_ a0 a1 a2 a3 (k + 10) (by omega) h1 h2, Option.bind_some, sizarref27_Fact.j0, Bool.not_not, checkR1_ _ _ (by omega), check1_]
end Z
end Go.Proofs.Ytbnaecdeocbkpaa.X
-- The laws FactSpec, ActiveSpec and HeldSpec, plain.
namespace Go.Proofs.Ytbnaecdeocbkpaa.X
open Go.RowKit Go.Proofs.YtbnaecdeocbkpaaW.PrintWords Go.Proofs.YtbnaecdeocbkpaaW.PrintMore
set_option linter.unusedVariables false
set_option linter.unusedSimpArgs false
open Z
theorem Z.fact_some (a0 a1 a2 a3 a4 a5 a6 a7 : Int) : ∃ b0 b1 b2 b3 b4 b5 b6 b7 b8, petitions_Fact.f a0 a1 a2 a3 a4 a5 a6 a7 = some (b0, b1, b2, b3, b4, b5, b6, b7, b8) := by
  unfold petitions_Fact.f
  rw [check1_, Option.bind_some]
  split
  · exact ⟨_, _, _, _, _, _, _, _, _, rfl⟩
  · split
    · exact ⟨_, _, _, _, _, _, _, _, _, rfl⟩
    · exact ⟨_, _, _, _, _, _, _, _, _, rfl⟩
theorem Pu.PetitionsFactSpec (a0 : Int) (w0 : (Lit.int .i64 a0).wf = true) (a1 : Int) (w1 : (Lit.int .i64 a1).wf = true) (a2 : Int) (w2 : (Lit.int .i64 a2).wf = true) (a3 : Int) (w3 : (Lit.int .i64 a3).wf = true) (y : S23) (a5 : Int) (w5 : (Lit.int .i64 a5).wf = true) (a6 : Int) (w6 : (Lit.int .i64 a6).wf = true) :
    ∃ k, sizarlaw27_PetitionsFactSpec.f k a0 a1 a2 a3 y.f0 y.f1 a5 a6 = some true := by
  refine ⟨4000, ?_⟩
  obtain ⟨b0, b1, b2, b3, b4, b5, b6, b7, b8, hb⟩ := fact_some a0 a1 a2 a3 y.f0 y.f1 a5 a6
  unfold sizarlaw27_PetitionsFactSpec.f
  rw [sane, Option.bind_some, if_pos rfl, factR_ _ _ _ _ _ _ _ _ 4000 (by omega), hb, Option.bind_some, Option.bind_some, if_pos (by simp)]
  simp
end Go.Proofs.Ytbnaecdeocbkpaa.X
-- The row of the law PetitionsFactSpec, out of its pure proof and its walk (written by wip/mkrow.py).
namespace Go.Proofs.Ytbnaecdeocbkpaa.petitionsFactSpec
open Go.ChangeShapes Go.WideShapes Go.ChangeAt Go.RowKit Go.Proofs.YtbnaecdeocbkpaaW.PrintWords Go.Proofs.YtbnaecdeocbkpaaW.Opn Go.Proofs.Ytbnaecdeocbkpaa.X
open Go.ChangeMaps (open_string shut_string)
set_option linter.unusedVariables false
theorem own : ownKnob Try.prog.godebug = none := by kernel_rfl
theorem laidOut : laidOutB Try.prog = true := by kernel_rfl
set_option maxRecDepth 100000 in
theorem lifted (os : Os) (started : os.Started) (H : Type) (enc : TypeId × Value → H) :
    ReturnsInHanded {} Try.checked os 3 .any (Rows.petitionsFactSpecSpec.pre6 enc Try.prog Try.f3 Rows.petitionsFactSpecRow.domain false) (Rows.petitionsFactSpecSpec.post enc Try.prog Try.f3 false true false false) := by
  refine returnsInHanded_of_change_sized (C := Try.checked) own started (by kernel_rfl) Try.func3
    (ChangeSpec.witness6 (enc := enc) (C := Try.checked) false ⟨#[], #[.int .i64 0, .int .i64 0, .int .i64 0, .int .i64 0, .agg #[.int .i64 0,.int .i64 0], .int .i64 0, .int .i64 0], []⟩ 8 (by kernel_rfl) (by kernel_rfl) (by kernel_rfl) (by kernel_rfl)) ?_
  intro W base args ds gs before hval0 hW hcnd hsz0 _
  have hval : ∀ (j : Nat) t v, Try.f3.params[j]? = some t → args[j]? = some v → Value.okWide Try.prog W .any base t v := hval0
  have hW' := hW
  obtain ⟨p, q, hA0, hV, rfl, hfz, hnd⟩ := hW
  have hA : DataW.TrodAll enc Try.prog W 0 (fun _ => true) true Try.f3.params.toList args.toList ds p := hA0
  rw [Try.params3] at hA hval
  obtain ⟨v0, vs0, d0, ds0, p0, q0, hargs, rfl, rfl, h0, r0⟩ := trodAll_cons hA
  obtain ⟨v1, vs1, d1, ds1, p1, q1, rfl, rfl, rfl, h1, r1⟩ := trodAll_cons r0
  obtain ⟨v2, vs2, d2, ds2, p2, q2, rfl, rfl, rfl, h2, r2⟩ := trodAll_cons r1
  obtain ⟨v3, vs3, d3, ds3, p3, q3, rfl, rfl, rfl, h3, r3⟩ := trodAll_cons r2
  obtain ⟨v4, vs4, d4, ds4, p4, q4, rfl, rfl, rfl, h4, r4⟩ := trodAll_cons r3
  obtain ⟨v5, vs5, d5, ds5, p5, q5, rfl, rfl, rfl, h5, r5⟩ := trodAll_cons r4
  obtain ⟨v6, vs6, d6, ds6, p6, q6, rfl, rfl, rfl, h6, r6⟩ := trodAll_cons r5
  obtain ⟨rfl, rfl, rfl⟩ := trodAll_nil r6
  obtain rfl : args = #[v0, v1, v2, v3, v4, v5, v6] := by cases args; simp_all
  obtain ⟨rfl, rfl⟩ := trodVars_none hV
  have k0 := h0
  have lt0 : ∀ x ∈ p0, x.block < W.heap.size := by obtain ⟨m, hm⟩ := k0; exact DataW.trod_lt m _ _ _ hm
  obtain ⟨a0, rfl, rfl, rfl, w0⟩ := open_int Try.underlying3 (hval 0 3 v0 rfl rfl) h0
  have k1 := h1
  have lt1 : ∀ x ∈ p1, x.block < W.heap.size := by obtain ⟨m, hm⟩ := k1; exact DataW.trod_lt m _ _ _ hm
  obtain ⟨a1, rfl, rfl, rfl, w1⟩ := open_int Try.underlying3 (hval 1 3 v1 rfl rfl) h1
  have k2 := h2
  have lt2 : ∀ x ∈ p2, x.block < W.heap.size := by obtain ⟨m, hm⟩ := k2; exact DataW.trod_lt m _ _ _ hm
  obtain ⟨a2, rfl, rfl, rfl, w2⟩ := open_int Try.underlying3 (hval 2 3 v2 rfl rfl) h2
  have k3 := h3
  have lt3 : ∀ x ∈ p3, x.block < W.heap.size := by obtain ⟨m, hm⟩ := k3; exact DataW.trod_lt m _ _ _ hm
  obtain ⟨a3, rfl, rfl, rfl, w3⟩ := open_int Try.underlying3 (hval 3 3 v3 rfl rfl) h3
  have k4 := h4
  have lt4 : ∀ x ∈ p4, x.block < W.heap.size := by obtain ⟨m, hm⟩ := k4; exact DataW.trod_lt m _ _ _ hm
  obtain ⟨y4, cs4, rfl, hk4, ho4⟩ := Opens.arg_struct op23 Try.underlying23 (hval 4 23 v4 rfl rfl) h4
  obtain rfl := k23_open hk4
  have k5 := h5
  have lt5 : ∀ x ∈ p5, x.block < W.heap.size := by obtain ⟨m, hm⟩ := k5; exact DataW.trod_lt m _ _ _ hm
  obtain ⟨a5, rfl, rfl, rfl, w5⟩ := open_int Try.underlying3 (hval 5 3 v5 rfl rfl) h5
  have k6 := h6
  have lt6 : ∀ x ∈ p6, x.block < W.heap.size := by obtain ⟨m, hm⟩ := k6; exact DataW.trod_lt m _ _ _ hm
  obtain ⟨a6, rfl, rfl, rfl, w6⟩ := open_int Try.underlying3 (hval 6 3 v6 rfl rfl) h6
  clear hA0 hval0 hsz0
  obtain ⟨k, hk_⟩ := Pu.PetitionsFactSpec a0 w0 a1 w1 a2 w2 a3 w3 y4 a5 w5 a6 w6
  refine (sizarlaw27_PetitionsFactSpec.calls k a0 a1 a2 a3 y4.f0 y4.f1 a5 a6 true W  hk_).mono fun e W' ⟨he, bel0⟩ => ?_
  have bel : Below W.heap.size W W' := bel0
  subst he
  exact ⟨_, rfl, _, _, _, [], _, [], hW', trodAll_mk1 (shut_bool Try.underlying4 _), (trodAll_cons_mk (Below.trod laidOut (by kernel_rfl) (of_decide_eq_true (by kernel_rfl)) k0 bel lt0) (trodAll_cons_mk (Below.trod laidOut (by kernel_rfl) (of_decide_eq_true (by kernel_rfl)) k1 bel lt1) (trodAll_cons_mk (Below.trod laidOut (by kernel_rfl) (of_decide_eq_true (by kernel_rfl)) k2 bel lt2) (trodAll_cons_mk (Below.trod laidOut (by kernel_rfl) (of_decide_eq_true (by kernel_rfl)) k3 bel lt3) (trodAll_cons_mk (Below.trod laidOut (by kernel_rfl) (of_decide_eq_true (by kernel_rfl)) k4 bel lt4) (trodAll_cons_mk (Below.trod laidOut (by kernel_rfl) (of_decide_eq_true (by kernel_rfl)) k5 bel lt5) (trodAll_cons_mk (Below.trod laidOut (by kernel_rfl) (of_decide_eq_true (by kernel_rfl)) k6 bel lt6) trodAll_mk0))))))), rfl, bel.frame _, fun h => by cases h⟩
theorem over : Rows.petitionsFactSpecRow.holds Try.pinned (OpenSpec.ofChange Rows.petitionsFactSpecSpec) :=
  OpenClaim.holds_of_wide 3 Try.f3 rfl rfl rfl rfl rfl rfl rfl ⟨rfl, rfl, rfl, rfl, rfl⟩ rfl rfl rfl rfl rfl (by kernel_rfl) Try.func3 (by kernel_rfl)
    (of_decide_eq_true (by kernel_rfl)) (by unfold Func.isWrapper; first | (rw [if_pos (by decide +kernel)]; kernel_rfl) | (rw [if_neg (by decide +kernel)]; exact ⟨rfl, rfl⟩))
    (fun os started H enc _ => lifted os started H enc)
end Go.Proofs.Ytbnaecdeocbkpaa.petitionsFactSpec
namespace Go.Proofs.Ytbnaecdeocbkpaa
/-- The row, under a short name, for the claim. -/
theorem petitionsFactSpec_holds : Rows.PetitionsFactSpecSaid := petitionsFactSpec.over
#print axioms petitionsFactSpec_holds
end Go.Proofs.Ytbnaecdeocbkpaa
