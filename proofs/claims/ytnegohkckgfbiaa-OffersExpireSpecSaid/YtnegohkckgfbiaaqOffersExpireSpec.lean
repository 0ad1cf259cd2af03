/- The law OffersExpireSpec is proved, whatever its input: no condition. -/
import Derived.Test.Ytnegohkckgfbiaaqb4
import Derived.Test.Ytnegohkckgfbiaaqrx33
import Derived.Test.Ytnegohkckgfbiaaqrx34
import Derived.Test.Ytnegohkckgfbiaaqrx35
import Derived.ChangeOld
import Derived.OpenShut
import Derived.ProofKit
import Derived.ShutString
import Derived.SizedLaws
import Derived.Test.YtnegohkckgfbiaaRows
-- What the functions of the package offers and of its reference compute, in plain lists.
namespace Go.Proofs.Ytnegohkckgfbiaa.X
open Go.RowKit Go.Proofs.YtnegohkckgfbiaaW.PrintWords
set_option linter.unusedVariables false
set_option linter.unusedSimpArgs false
deriving instance DecidableEq for S24
deriving instance DecidableEq for S26
namespace Z
def lt (a b : S26) : Bool := decide (a.f0 < b.f0 ∨ a.f0 = b.f0 ∧ (a.f1.f0 < b.f1.f0 ∨ a.f1.f0 = b.f1.f0 ∧ a.f1.f1 < b.f1.f1))
theorem w64 (i : Nat) (h : i < 1000000) : wrap64 ((i : Int) + 1) = ((i + 1 : Nat) : Int) := by unfold wrap64; omega
theorem rd_at {l : List S26} {i : Nat} (h : i < l.length) : rd_T26 l (i : Int) = l[i] := by simp [rd_T26, List.getD_eq_getElem?_getD, List.getElem?_eq_getElem h]

theorem before (a b : S26) : sizarref31_Before.f a.f0 a.f1.f0 a.f1.f1 a.f2 b.f0 b.f1.f0 b.f1.f1 b.f2 = some (lt a b) := by
  unfold sizarref31_Before.f lt
  repeat' split
  all_goals (simp_all <;> omega)
theorem same_loop (l m : List S26) (hl : l.length ≤ 1000) (he : l.length = m.length) : ∀ (n i k : Nat), n + i = l.length → n + 1 ≤ k → sizarref31_Same.l0 k l m (i : Int) = some (decide (l.drop i = m.drop i))
  | 0, i, k + 1, h, hk => by
    unfold sizarref31_Same.l0
    rw [if_neg (by omega), List.drop_eq_nil_of_le (by omega), List.drop_eq_nil_of_le (by omega)]
    simp
  | n + 1, i, k + 1, h, hk => by
    have hi : i < l.length := by omega
    have hi' : i < m.length := by omega
    have ih := same_loop l m hl he n (i + 1) k (by omega) (by omega)
    unfold sizarref31_Same.l0
    rw [if_pos (by omega), if_pos (by omega), if_pos (by omega), rd_at hi, rd_at hi', w64 _ (by omega), ih, List.drop_eq_getElem_cons hi, List.drop_eq_getElem_cons hi']
    generalize l[i] = x
    generalize m[i] = y
    obtain ⟨x0, ⟨x1, x2⟩, x3⟩ := x
    obtain ⟨y0, ⟨y1, y2⟩, y3⟩ := y
    by_cases h0 : x0 = y0 <;> by_cases h1 : x1 = y1 <;> by_cases h2 : x2 = y2 <;> by_cases h3 : x3 = y3 <;> simp [h0, h1, h2, h3]
theorem same (l m : List S26) (hl : l.length ≤ 1000) (k : Nat) (hk : l.length + 1 ≤ k) : sizarref31_Same.f k l m = some (decide (l = m)) := by
  unfold sizarref31_Same.f
  by_cases he : l.length = m.length
  · rw [if_pos (by omega)]
    have := same_loop l m hl he l.length 0 k (by omega) hk
    simpa using this
  · rw [if_neg (by omega)]
    simp
    intro h
    exact he (by rw [h])
end Z
end Go.Proofs.Ytnegohkckgfbiaa.X
-- Make, Expire, Take, Held: both sides compute the same plain functions of lists.
namespace Go.Proofs.Ytnegohkckgfbiaa.X
open Go.RowKit Go.Proofs.YtnegohkckgfbiaaW.PrintWords
set_option linter.unusedVariables false
set_option linter.unusedSimpArgs false
namespace Z
theorem rexpire_loop (l : List S26) (hl : l.length ≤ 1000) (now : Int) : ∀ (n i k : Nat) (x g : List S26), n + i = l.length → n + 1 ≤ k → x.length + n ≤ 1000 → g.length + n ≤ 1000 →
    sizarref31_Expire.l0 k l now x g (i : Int) = some (x ++ (l.drop i).filter (fun o => decide (now < o.f2)), g ++ (l.drop i).filter (fun o => !decide (now < o.f2)))
  | 0, i, k + 1, x, g, h, hk, hx, hg => by
    unfold sizarref31_Expire.l0
    rw [if_neg (by omega), List.drop_eq_nil_of_le (by omega)]
    simp
  | n + 1, i, k + 1, x, g, h, hk, hx, hg => by
    have hi : i < l.length := by omega
    unfold sizarref31_Expire.l0
    rw [if_pos (by omega), if_pos (by omega), rd_at hi, w64 _ (by omega), List.drop_eq_getElem_cons hi]
    by_cases hn : now < l[i].f2
    · rw [if_pos hn, if_pos (by omega), rexpire_loop l hl now n (i + 1) k _ _ (by omega) (by omega) (by simp; omega) (by omega)]
      simp only [List.filter_cons, hn, decide_true, decide_false, Bool.not_true, Bool.not_false, if_true, if_false, List.append_assoc, List.cons_append, List.nil_append, Bool.false_eq_true]
    · rw [if_neg hn, if_pos (by omega), rexpire_loop l hl now n (i + 1) k _ _ (by omega) (by omega) (by omega) (by simp; omega)]
      simp only [List.filter_cons, hn, decide_true, decide_false, Bool.not_true, Bool.not_false, if_true, if_false, List.append_assoc, List.cons_append, List.nil_append, Bool.false_eq_true]
def stay (l : List S26) (now : Int) : List S26 := l.filter (fun o => decide (now < o.f2))
def gone (l : List S26) (now : Int) : List S26 := l.filter (fun o => !decide (now < o.f2))
theorem rexpire (l : List S26) (hl : l.length ≤ 1000) (now : Int) (k : Nat) (hk : l.length + 1 ≤ k) : sizarref31_Expire.f k l now = some (stay l now, gone l now) := by
  have := rexpire_loop l hl now l.length 0 k [] [] (by omega) hk (by simp; omega) (by simp; omega)
  simpa [sizarref31_Expire.f, stay, gone] using this
theorem expire (l : List S26) (hl : l.length ≤ 1000) (now : Int) : offers_Expire.f l now = some (stay l now, gone l now) := by
  unfold offers_Expire.f
  rw [if_pos (by omega)]
  rfl

def has (s : Int) (o : S26) : Bool := o.f1.f0 == s || o.f1.f1 == s
def held (l : List S26) (s : Int) : Nat := if s < 0 then 0 else l.countP (has s)
theorem held_loop (l : List S26) (hl : l.length ≤ 1000) (s : Int) : ∀ (n i k c : Nat), n + i = l.length → n + 1 ≤ k → c + n ≤ 1000 → offers_Held.l0 k s (c : Int) l (l.length : Int) (i : Int) = some ((c + (l.drop i).countP (has s) : Nat) : Int)
  | 0, i, k + 1, c, h, hk, hc => by
    unfold offers_Held.l0
    rw [if_neg (by omega), List.drop_eq_nil_of_le (by omega)]
    simp
  | n + 1, i, k + 1, c, h, hk, hc => by
    have hi : i < l.length := by omega
    unfold offers_Held.l0
    rw [if_pos (by omega), if_pos (by omega), if_pos (by omega), rd_at hi, w64 _ (by omega), w64 _ (by omega), List.drop_eq_getElem_cons hi, List.countP_cons, held_loop l hl s n (i + 1) k (c + 1) (by omega) (by omega) (by omega), held_loop l hl s n (i + 1) k c (by omega) (by omega) (by omega)]
    unfold has
    by_cases h0 : l[i].f1.f0 = s <;> by_cases h1 : l[i].f1.f1 = s <;> simp [h0, h1] <;> omega
theorem held_ (l : List S26) (hl : l.length ≤ 1000) (s : Int) (k : Nat) (hk : l.length + 1 ≤ k) : offers_Held.f k l s = some (held l s : Int) := by
  unfold offers_Held.f held
  split
  · rfl
  · have := held_loop l hl s l.length 0 k 0 (by omega) hk (by omega)
    simpa using this
theorem rheld_loop (l : List S26) (hl : l.length ≤ 1000) (s : Int) : ∀ (n i k c : Nat), n + i = l.length → n + 1 ≤ k → c + n ≤ 1000 → sizarref31_Held.l0 k l s (c : Int) (i : Int) = some ((c + (if s < 0 then 0 else (l.drop i).countP (has s)) : Nat) : Int)
  | 0, i, k + 1, c, h, hk, hc => by
    unfold sizarref31_Held.l0
    rw [if_neg (by omega), List.drop_eq_nil_of_le (by omega)]
    simp
  | n + 1, i, k + 1, c, h, hk, hc => by
    have hi : i < l.length := by omega
    unfold sizarref31_Held.l0
    rw [if_pos (by omega), if_pos (show (0 : Int) ≤ (i : Int) by omega), rd_at hi, w64 _ (by omega), w64 _ (by omega), List.drop_eq_getElem_cons hi, List.countP_cons, rheld_loop l hl s n (i + 1) k (c + 1) (by omega) (by omega) (by omega), rheld_loop l hl s n (i + 1) k c (by omega) (by omega) (by omega)]
    by_cases hs : s < 0
    · rw [if_neg (by omega), if_pos hs, if_pos hs]
    · rw [if_pos (by omega), if_neg hs, if_neg hs]
      unfold has
      by_cases h0 : l[i].f1.f0 = s <;> by_cases h1 : l[i].f1.f1 = s <;> simp [h0, h1] <;> omega
theorem rheld (l : List S26) (hl : l.length ≤ 1000) (s : Int) (k : Nat) (hk : l.length + 1 ≤ k) : sizarref31_Held.f k l s = some (held l s : Int) := by
  have := rheld_loop l hl s l.length 0 k 0 (by omega) hk (by omega)
  simpa [sizarref31_Held.f, held] using this

theorem few (l : List S26) : sizarref31_Few.f l = some (decide (l.length ≤ 40)) := by
  unfold sizarref31_Few.f
  congr 1
  rw [decide_eq_decide]
  omega
end Z
end Go.Proofs.Ytnegohkckgfbiaa.X
-- The seven laws of the package offers, in plain lists.
namespace Go.Proofs.Ytnegohkckgfbiaa.X
open Go.RowKit Go.Proofs.YtnegohkckgfbiaaW.PrintWords
set_option linter.unusedVariables false
set_option linter.unusedSimpArgs false
namespace Z
theorem sane : sizarlaw31_sane.f 300 = some true := by decide +kernel
theorem stay_len (l : List S26) (now : Int) : (stay l now).length ≤ l.length := List.length_filter_le _ _
theorem gone_len (l : List S26) (now : Int) : (gone l now).length ≤ l.length := List.length_filter_le _ _
end Z
open Z
theorem Pu.OffersExpireSpec (l0 : List S26) (a1 : Int) (w1 : (Lit.int .i64 a1).wf = true) (a2 : Int) (w2 : (Lit.int .i64 a2).wf = true) : ∃ k, sizarlaw31_OffersExpireSpec.f k l0 a1 a2 = some true := by
  refine ⟨300, ?_⟩
  unfold sizarlaw31_OffersExpireSpec.f
  rw [sane, Option.bind_some, if_pos rfl, few, Option.bind_some]
  by_cases h : l0.length ≤ 40
  · have := stay_len l0 a1
    have := gone_len l0 a1
    rw [if_pos (by simpa using h), expire l0 (by omega), rexpire l0 (by omega) _ _ (by omega), Option.bind_some, Option.bind_some, same _ _ (by simp; omega) _ (by simp; omega), Option.bind_some, if_pos (by simp), same _ _ (by simp; omega) _ (by simp; omega), Option.bind_some, if_pos (by simp), held_ _ (by omega) _ _ (by omega), rheld _ (by omega) _ _ (by omega), held_ _ (by omega) _ _ (by omega), Option.bind_some, Option.bind_some, if_pos rfl, Option.bind_some]
    rfl
  · rw [if_neg (by simpa using h)]
end Go.Proofs.Ytnegohkckgfbiaa.X
-- The row of the law OffersExpireSpec, out of its pure proof and its walk (written by wip/mkrow.py).
namespace Go.Proofs.Ytnegohkckgfbiaa.offersExpireSpec
open Go.ChangeShapes Go.WideShapes Go.ChangeAt Go.RowKit Go.Proofs.YtnegohkckgfbiaaW.PrintWords Go.Proofs.YtnegohkckgfbiaaW.Opn Go.Proofs.Ytnegohkckgfbiaa.X
open Go.ChangeMaps (open_string shut_string)
set_option linter.unusedVariables false
theorem own : ownKnob Try.prog.godebug = none := by kernel_rfl
theorem laidOut : laidOutB Try.prog = true := by kernel_rfl
set_option maxRecDepth 100000 in
theorem lifted (os : Os) (started : os.Started) (H : Type) (enc : TypeId × Value → H) :
    ReturnsInHanded {} Try.checked os 4 .any (Rows.offersExpireSpecSpec.pre6 enc Try.prog Try.f4 Rows.offersExpireSpecRow.domain false) (Rows.offersExpireSpecSpec.post enc Try.prog Try.f4 false true false false) := by
  refine returnsInHanded_of_change_sized (C := Try.checked) own started (by kernel_rfl) Try.func4
    (ChangeSpec.witness6 (enc := enc) (C := Try.checked) false ⟨#[], #[.slice none 0 0, .int .i64 0, .int .i64 0], []⟩ 8 (by kernel_rfl) (by kernel_rfl) (by kernel_rfl) (by kernel_rfl)) ?_
  intro W base args ds gs before hval0 hW hcnd hsz0 _
  have hval : ∀ (j : Nat) t v, Try.f4.params[j]? = some t → args[j]? = some v → Value.okWide Try.prog W .any base t v := hval0
  have hW' := hW
  obtain ⟨p, q, hA0, hV, rfl, hfz, hnd⟩ := hW
  have hA : DataW.TrodAll enc Try.prog W 0 (fun _ => true) true Try.f4.params.toList args.toList ds p := hA0
  rw [Try.params4] at hA hval
  obtain ⟨v0, vs0, d0, ds0, p0, q0, hargs, rfl, rfl, h0, r0⟩ := trodAll_cons hA
  obtain ⟨v1, vs1, d1, ds1, p1, q1, rfl, rfl, rfl, h1, r1⟩ := trodAll_cons r0
  obtain ⟨v2, vs2, d2, ds2, p2, q2, rfl, rfl, rfl, h2, r2⟩ := trodAll_cons r1
  obtain ⟨rfl, rfl, rfl⟩ := trodAll_nil r2
  obtain rfl : args = #[v0, v1, v2] := by cases args; simp_all
  obtain ⟨rfl, rfl⟩ := trodVars_none hV
  have k0 := h0
  have lt0 : ∀ x ∈ p0, x.block < W.heap.size := by obtain ⟨m, hm⟩ := k0; exact DataW.trod_lt m _ _ _ hm
  obtain ⟨A0, c0, l0, rfl, hc0, hr0, ho0⟩ := Opens.arg_slice op26 Try.underlying22 (hval 0 22 v0 rfl rfl) h0
  have k1 := h1
  have lt1 : ∀ x ∈ p1, x.block < W.heap.size := by obtain ⟨m, hm⟩ := k1; exact DataW.trod_lt m _ _ _ hm
  obtain ⟨a1, rfl, rfl, rfl, w1⟩ := open_int Try.underlying3 (hval 1 3 v1 rfl rfl) h1
  have k2 := h2
  have lt2 : ∀ x ∈ p2, x.block < W.heap.size := by obtain ⟨m, hm⟩ := k2; exact DataW.trod_lt m _ _ _ hm
  obtain ⟨a2, rfl, rfl, rfl, w2⟩ := open_int Try.underlying3 (hval 2 3 v2 rfl rfl) h2
  clear hA0 hval0 hsz0
  obtain ⟨k, hk_⟩ := Pu.OffersExpireSpec l0 a1 w1 a2 w2
  refine (sizarlaw31_OffersExpireSpec.calls k A0 c0 l0 a1 a2 true W hr0 hc0 hk_).mono fun e W' ⟨he, bel0⟩ => ?_
  have bel : Below W.heap.size W W' := bel0
  subst he
  exact ⟨_, rfl, _, _, _, [], _, [], hW', trodAll_mk1 (shut_bool Try.underlying4 _), (trodAll_cons_mk (Below.trod laidOut (by kernel_rfl) (of_decide_eq_true (by kernel_rfl)) k0 bel lt0) (trodAll_cons_mk (Below.trod laidOut (by kernel_rfl) (of_decide_eq_true (by kernel_rfl)) k1 bel lt1) (trodAll_cons_mk (Below.trod laidOut (by kernel_rfl) (of_decide_eq_true (by kernel_rfl)) k2 bel lt2) trodAll_mk0))), rfl, bel.frame _, fun h => by cases h⟩
theorem over : Rows.offersExpireSpecRow.holds Try.pinned (OpenSpec.ofChange Rows.offersExpireSpecSpec) :=
  OpenClaim.holds_of_wide 4 Try.f4 rfl rfl rfl rfl rfl rfl rfl ⟨rfl, rfl, rfl, rfl, rfl⟩ rfl rfl rfl rfl rfl (by kernel_rfl) Try.func4 (by kernel_rfl)
    (of_decide_eq_true (by kernel_rfl)) (by unfold Func.isWrapper; first | (rw [if_pos (by decide +kernel)]; kernel_rfl) | (rw [if_neg (by decide +kernel)]; exact ⟨rfl, rfl⟩))
    (fun os started H enc _ => lifted os started H enc)
end Go.Proofs.Ytnegohkckgfbiaa.offersExpireSpec
namespace Go.Proofs.Ytnegohkckgfbiaa
/-- The row, under a short name, for the claim. -/
theorem offersExpireSpec_holds : Rows.OffersExpireSpecSaid := offersExpireSpec.over
#print axioms offersExpireSpec_holds
end Go.Proofs.Ytnegohkckgfbiaa
