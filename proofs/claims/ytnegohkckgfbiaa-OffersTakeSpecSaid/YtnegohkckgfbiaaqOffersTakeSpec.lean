/- The law OffersTakeSpec is proved, whatever its input: no condition. -/
import Derived.Test.Ytnegohkckgfbiaaqb4
import Derived.Test.Ytnegohkckgfbiaaqrx27
import Derived.Test.Ytnegohkckgfbiaaqrx29
import Derived.Test.Ytnegohkckgfbiaaqrx30
import Derived.Test.Ytnegohkckgfbiaaqrx36
import Derived.Test.Ytnegohkckgfbiaaqrx37
import Derived.ChangeOld
import Derived.OpenShut
import Derived.ProofKit
import Derived.ShutString
import Derived.SizedLaws
import Derived.Test.YtnegohkckgfbiaaRows
-- What the functions of the package offers and of its reference compute, in plain lists.
namespace Go.Proofs.Ytnegohkckgfbiaa.X
open Go.RowKit Go.Proofs.YtnegohkckgfbiaaW.PrintWords
set_option linter.unusedVariables false
set_option linter.unusedSimpArgs false
deriving instance DecidableEq for S24
deriving instance DecidableEq for S26
namespace Z
def ok (o : S26) : Bool := decide (0 ≤ o.f0 ∧ o.f0 < 20000 ∧ 0 ≤ o.f1.f0 ∧ o.f1.f0 < 4000 ∧ -1 ≤ o.f1.f1 ∧ o.f1.f1 < 4000 ∧ o.f1.f1 ≠ o.f1.f0 ∧ 1 ≤ o.f2 ∧ o.f2 ≤ 1048592)
def lt (a b : S26) : Bool := decide (a.f0 < b.f0 ∨ a.f0 = b.f0 ∧ (a.f1.f0 < b.f1.f0 ∨ a.f1.f0 = b.f1.f0 ∧ a.f1.f1 < b.f1.f1))
def key (a b : S26) : Bool := isOffer b.f0 b.f1.f0 b.f1.f1 a
theorem key_iff {a b : S26} : key a b = true ↔ a.f0 = b.f0 ∧ a.f1.f0 = b.f1.f0 ∧ a.f1.f1 = b.f1.f1 := by simp [key, isOffer]
theorem w64 (i : Nat) (h : i < 1000000) : wrap64 ((i : Int) + 1) = ((i + 1 : Nat) : Int) := by unfold wrap64; omega
theorem rd_at {l : List S26} {i : Nat} (h : i < l.length) : rd_T26 l (i : Int) = l[i] := by simp [rd_T26, List.getD_eq_getElem?_getD, List.getElem?_eq_getElem h]

theorem fits (o : S26) : offers_fits.f o.f0 o.f1.f0 o.f1.f1 o.f2 = some (ok o) := by
  unfold offers_fits.f offers_within.f ok
  repeat' (first | split | (simp only [Option.bind_some]))
  all_goals (apply congrArg some; (try simp only [decide_eq_true_eq] at *); first | exact (decide_eq_false (by omega)).symm | exact decide_eq_decide.2 (by omega) | simp_all)
theorem valid (o : S26) : sizarref31_Valid.f o.f0 o.f1.f0 o.f1.f1 o.f2 = some (ok o) := by
  unfold sizarref31_Valid.f ok
  repeat' split
  all_goals (simp_all <;> omega)
theorem before (a b : S26) : sizarref31_Before.f a.f0 a.f1.f0 a.f1.f1 a.f2 b.f0 b.f1.f0 b.f1.f1 b.f2 = some (lt a b) := by
  unfold sizarref31_Before.f lt
  repeat' split
  all_goals (simp_all <;> omega)
theorem cmp_ (a b : Int) : cmp_Compare_int.f a b = some (if a < b then -1 else if a > b then 1 else 0) := by
  unfold cmp_Compare_int.f cmp_isNaN_int.f
  simp
  repeat' split
  all_goals rfl
theorem or3 (k : Nat) (a b c : Int) : cmp_Or_int.f (k + 4) [a, b, c] = some (if a = 0 then if b = 0 then c else b else a) := by
  simp only [cmp_Or_int.f, cmp_Or_int.l0, rd, List.length_cons, List.length_nil]
  by_cases ha : a = 0 <;> by_cases hb : b = 0 <;> by_cases hc : c = 0 <;> simp [ha, hb, hc, wrap64, rd]
theorem compare_ (k : Nat) (a b : S26) : ∃ t, offers_compare.f (k + 4) a.f0 a.f1.f0 a.f1.f1 a.f2 b.f0 b.f1.f0 b.f1.f1 b.f2 = some t ∧ (t < 0 ↔ lt a b = true) ∧ (t = 0 ↔ key a b = true) := by
  unfold offers_compare.f
  simp only [cmp_, or3, Option.bind_some]
  refine ⟨_, rfl, ?_, ?_⟩
  · simp only [lt, decide_eq_true_eq]
    repeat' split
    all_goals omega
  · simp only [key_iff]
    repeat' split
    all_goals omega

/-! the lists -/
def chk : Option S26 → List S26 → Bool
  | _, [] => true
  | p, x :: r => ok x && (match p with | none => true | some q => lt q x) && chk (some x) r
def prev (l : List S26) : Nat → Option S26
  | 0 => none
  | i + 1 => l[i]?
def err (b : Bool) : Int := if b then 0 else 310
theorem chk_cons (p : Option S26) (x : S26) (r : List S26) : chk p (x :: r) = (ok x && (match p with | none => true | some q => lt q x) && chk (some x) r) := by cases p <;> rfl
theorem check_loop (l : List S26) (hl : l.length ≤ 1000) : ∀ (n i k : Nat), n + i = l.length → n + 6 ≤ k → offers_Check.l0 k l l (l.length : Int) (i : Int) = some (err (chk (prev l i) (l.drop i)))
  | 0, i, k + 1, h, hk => by
    unfold offers_Check.l0
    rw [if_neg (by omega), List.drop_eq_nil_of_le (by omega)]
    rfl
  | n + 1, i, k + 1, h, hk => by
    have hi : i < l.length := by omega
    have ih := check_loop l hl n (i + 1) k (by omega) (by omega)
    unfold offers_Check.l0
    rw [if_pos (by omega), if_pos (by omega), if_pos (by omega), rd_at hi, fits, Option.bind_some, List.drop_eq_getElem_cons hi, chk_cons]
    by_cases ho : ok l[i] = true
    · rw [if_pos ho, ho]
      cases i with
      | zero =>
        rw [if_neg (by omega), w64 _ (by omega), ih]
        simp [prev, List.getElem?_eq_getElem hi]
      | succ j =>
        have hw : wrap64 (((j + 1 : Nat) : Int) - 1) = ((j : Nat) : Int) := by unfold wrap64; omega
        rw [if_pos (by omega), hw, if_pos (by omega), if_pos (by omega), rd_at (show j < l.length by omega)]
        obtain ⟨k', rfl⟩ : ∃ k', k = k' + 4 := ⟨k - 4, by omega⟩
        obtain ⟨t, ht, h1, h2⟩ := compare_ k' l[j] l[j + 1]
        rw [ht, Option.bind_some, w64 _ (by omega), ih]
        have hp : prev l (j + 1) = some l[j] := by simp [prev]
        have hp' : prev l (j + 1 + 1) = some l[j + 1] := by simp [prev]
        rw [hp, hp']
        by_cases hlt : lt l[j] l[j + 1] = true
        · rw [if_neg (by have := h1.2 hlt; omega)]
          simp [hlt]
        · rw [if_pos (by have := mt h1.1 hlt; omega)]
          simp [hlt, err]
    · rw [if_neg ho]
      simp [ho, err]
theorem check (l : List S26) (hl : l.length ≤ 1000) (k : Nat) (hk : l.length + 6 ≤ k) : offers_Check.f k l = some (err (chk none l)) := by
  have := check_loop l hl l.length 0 k (by omega) hk
  simpa [offers_Check.f, prev] using this

theorem rcheck_loop (l : List S26) (hl : l.length ≤ 1000) : ∀ (n i k : Nat), n + i = l.length → n + 1 ≤ k → sizarref31_Check.l0 k l (i : Int) = some (err (chk (prev l i) (l.drop i)))
  | 0, i, k + 1, h, hk => by
    unfold sizarref31_Check.l0
    rw [if_neg (by omega), List.drop_eq_nil_of_le (by omega)]
    rfl
  | n + 1, i, k + 1, h, hk => by
    have hi : i < l.length := by omega
    have ih := rcheck_loop l hl n (i + 1) k (by omega) (by omega)
    unfold sizarref31_Check.l0
    rw [if_pos (by omega), if_pos (by omega), rd_at hi, valid, Option.bind_some, List.drop_eq_getElem_cons hi, chk_cons]
    by_cases ho : ok l[i] = true
    · rw [if_pos ho, ho]
      cases i with
      | zero =>
        rw [if_neg (by omega), w64 _ (by omega), ih]
        simp [prev, List.getElem?_eq_getElem hi]
      | succ j =>
        have hw : wrap64 (((j + 1 : Nat) : Int) - 1) = ((j : Nat) : Int) := by unfold wrap64; omega
        rw [if_pos (by omega), hw, if_pos (by omega), if_pos (by omega), rd_at (show j < l.length by omega), before, Option.bind_some, w64 _ (by omega), ih]
        have hp : prev l (j + 1) = some l[j] := by simp [prev]
        have hp' : prev l (j + 1 + 1) = some l[j + 1] := by simp [prev]
        rw [hp, hp']
        by_cases hlt : lt l[j] l[j + 1] = true
        · rw [if_pos hlt]
          simp [hlt]
        · rw [if_neg hlt]
          simp [hlt, err]
    · rw [if_neg ho]
      simp [ho, err]
theorem rcheck (l : List S26) (hl : l.length ≤ 1000) (k : Nat) (hk : l.length + 1 ≤ k) : sizarref31_Check.f k l = some (err (chk none l)) := by
  have := rcheck_loop l hl l.length 0 k (by omega) hk
  simpa [sizarref31_Check.f, prev] using this

theorem at_loop (l : List S26) (hl : l.length ≤ 1000) (s a b : Int) : ∀ (n i k : Nat), n + i = l.length → n + 1 ≤ k → sizarref31_at.l0 k l s (i : Int) a b = some (idxFrom (isOffer s a b) (l.drop i) i)
  | 0, i, k + 1, h, hk => by
    unfold sizarref31_at.l0
    rw [if_neg (by omega), List.drop_eq_nil_of_le (by omega)]
    rfl
  | n + 1, i, k + 1, h, hk => by
    have hi : i < l.length := by omega
    have ih := at_loop l hl s a b n (i + 1) k (by omega) (by omega)
    unfold sizarref31_at.l0
    rw [if_pos (by omega), if_pos (by omega), idxFrom_step _ _ _ hi, w64 _ (by omega), ih]
    by_cases h0 : (rd_T26 l (i : Int)).f0 = s
    · rw [if_pos h0]
      simp only [isOffer, h0, beq_self_eq_true, Bool.true_and]
      split <;> rfl
    · rw [if_neg h0]
      simp [isOffer, h0]
theorem at_ (l : List S26) (hl : l.length ≤ 1000) (s a b : Int) (k : Nat) (hk : l.length + 1 ≤ k) : sizarref31_at.f k l s a b = some (idxFrom (isOffer s a b) l 0) := by
  have := at_loop l hl s a b l.length 0 k (by omega) hk
  simpa [sizarref31_at.f] using this

theorem same_loop (l m : List S26) (hl : l.length ≤ 1000) (he : l.length = m.length) : ∀ (n i k : Nat), n + i = l.length → n + 1 ≤ k → sizarref31_Same.l0 k l m (i : Int) = some (decide (l.drop i = m.drop i))
  | 0, i, k + 1, h, hk => by
    unfold sizarref31_Same.l0
    rw [if_neg (by omega), List.drop_eq_nil_of_le (by omega), List.drop_eq_nil_of_le (by omega)]
    simp
  | n + 1, i, k + 1, h, hk => by
    have hi : i < l.length := by omega
    have hi' : i < m.length := by omega
    have ih := same_loop l m hl he n (i + 1) k (by omega) (by omega)
    unfold sizarref31_Same.l0
    rw [if_pos (by omega), if_pos (by omega), if_pos (by omega), rd_at hi, rd_at hi', w64 _ (by omega), ih, List.drop_eq_getElem_cons hi, List.drop_eq_getElem_cons hi']
    generalize l[i] = x
    generalize m[i] = y
    obtain ⟨x0, ⟨x1, x2⟩, x3⟩ := x
    obtain ⟨y0, ⟨y1, y2⟩, y3⟩ := y
    by_cases h0 : x0 = y0 <;> by_cases h1 : x1 = y1 <;> by_cases h2 : x2 = y2 <;> by_cases h3 : x3 = y3 <;> simp [h0, h1, h2, h3]
theorem same (l m : List S26) (hl : l.length ≤ 1000) (k : Nat) (hk : l.length + 1 ≤ k) : sizarref31_Same.f k l m = some (decide (l = m)) := by
  unfold sizarref31_Same.f
  by_cases he : l.length = m.length
  · rw [if_pos (by omega)]
    have := same_loop l m hl he l.length 0 k (by omega) hk
    simpa using this
  · rw [if_neg (by omega)]
    simp
    intro h
    exact he (by rw [h])
end Z
end Go.Proofs.Ytnegohkckgfbiaa.X
-- Make, Expire, Take, Held: both sides compute the same plain functions of lists.
namespace Go.Proofs.Ytnegohkckgfbiaa.X
open Go.RowKit Go.Proofs.YtnegohkckgfbiaaW.PrintWords
set_option linter.unusedVariables false
set_option linter.unusedSimpArgs false
namespace Z
theorem idx_or (p : S26 → Bool) : ∀ (l : List S26) (i : Nat), (idxFrom p l i = -1 ∧ l.any p = false) ∨ (∃ j : Nat, ∃ h : j < l.length, idxFrom p l i = ((i + j : Nat) : Int) ∧ p l[j] = true ∧ l.any p = true)
  | [], i => .inl ⟨rfl, rfl⟩
  | x :: r, i => by
    simp only [idxFrom, List.any_cons]
    by_cases hx : p x = true
    · exact .inr ⟨0, by simp, by simp [hx], by simpa using hx, by simp [hx]⟩
    · rw [if_neg hx]
      rw [Bool.not_eq_true] at hx
      rcases idx_or p r (i + 1) with ⟨h1, h2⟩ | ⟨j, h, h1, h2, h3⟩
      · exact .inl ⟨h1, by simp only [hx, h2, Bool.or_self]⟩
      · exact .inr ⟨j + 1, by simpa using h, by rw [h1]; congr 1; omega, by simpa using h2, by rw [h3, Bool.or_true]⟩

def tk (l : List S26) (s a b now : Int) : List S26 × Int :=
  if chk none l = true then
    (if idxFrom (isOffer s a b) l 0 < 0 then ([], 310) else if now ≥ (rd_T26 l (idxFrom (isOffer s a b) l 0)).f2 then ([], 310) else (l.take (idxFrom (isOffer s a b) l 0).toNat ++ l.drop ((idxFrom (isOffer s a b) l 0).toNat + 1), 0))
  else ([], 310)
theorem take (l : List S26) (hl : l.length ≤ 1000) (s a b now : Int) (k : Nat) (hk : l.length + 6 ≤ k) : offers_Take.f k l s a b now = some (tk l s a b now) := by
  unfold offers_Take.f tk
  rw [check l hl _ hk, Option.bind_some]
  cases hc : chk none l with
  | false => simp [err]
  | true =>
    rw [if_pos rfl, if_pos (show err true = 0 from rfl)]
    rcases idx_or (isOffer s a b) l 0 with ⟨h1, h2⟩ | ⟨j, hj, h1, h2, h3⟩
    · rw [h1]
      simp
    · rw [h1, Nat.zero_add]
      simp only [if_neg (show ¬((j : Nat) : Int) < 0 by omega)]
      split
      · rfl
      · simp only [api_Offer_27.f, api_Offer_34.f]
        rw [if_pos (by omega), Option.bind_some, if_pos ⟨by omega, by omega, trivial⟩, Option.bind_some]
theorem rtake (l : List S26) (hl : l.length ≤ 1000) (s a b now : Int) (k : Nat) (hk : l.length + 6 ≤ k) : sizarref31_Take.f k l s a b now = some (tk l s a b now) := by
  unfold sizarref31_Take.f tk
  rw [rcheck l hl _ (by omega), at_ l hl _ _ _ _ (by omega), Option.bind_some, Option.bind_some]
  cases hc : chk none l with
  | false => simp [err]
  | true =>
    rw [if_pos rfl, if_pos (show err true = 0 from rfl)]
    rcases idx_or (isOffer s a b) l 0 with ⟨h1, h2⟩ | ⟨j, hj, h1, h2, h3⟩
    · rw [h1]
      simp
    · rw [h1, Nat.zero_add, w64 _ (by omega)]
      simp only [if_neg (show ¬((j : Nat) : Int) < 0 by omega), if_pos (show (0 : Int) ≤ (j : Int) by omega), if_pos (show (j : Int) < (l.length : Int) by omega)]
      split
      · rfl
      · simp only [Option.bind_some, List.length_nil, List.length_append, List.length_cons, List.length_take, List.length_drop, Int.toNat_natCast, List.nil_append]
        rw [if_pos (by omega), if_pos (by omega), if_pos (by omega), if_pos (by omega), if_pos (by omega)]
theorem few (l : List S26) : sizarref31_Few.f l = some (decide (l.length ≤ 40)) := by
  unfold sizarref31_Few.f
  congr 1
  rw [decide_eq_decide]
  omega
end Z
end Go.Proofs.Ytnegohkckgfbiaa.X
-- The seven laws of the package offers, in plain lists.
namespace Go.Proofs.Ytnegohkckgfbiaa.X
open Go.RowKit Go.Proofs.YtnegohkckgfbiaaW.PrintWords
set_option linter.unusedVariables false
set_option linter.unusedSimpArgs false
namespace Z
theorem sane : sizarlaw31_sane.f 300 = some true := by decide +kernel
end Z
open Z
theorem Z.tk_len (l : List S26) (s a b now : Int) : (tk l s a b now).1.length ≤ l.length := by
  unfold tk
  split
  · split
    · simp
    · split
      · simp
      · simp
        omega
  · simp
theorem Z.take_loop (l : List S26) (hl : l.length ≤ 40) (now : Int) (ask : List S26) (ha : ask.length ≤ 10) : ∀ (n i k : Nat), n + i = ask.length → n + 100 ≤ k → sizarlaw31_OffersTakeSpec.l0 k l now ask (i : Int) = some true
  | 0, i, k + 1, h, hk => by
    unfold sizarlaw31_OffersTakeSpec.l0
    rw [if_neg (by omega)]
  | n + 1, i, k + 1, h, hk => by
    have := tk_len l (rd_T26 ask i).f0 (rd_T26 ask i).f1.f0 (rd_T26 ask i).f1.f1 now
    unfold sizarlaw31_OffersTakeSpec.l0
    rw [if_pos (by omega), if_pos (by omega), take l (by omega) _ _ _ _ _ (by omega), rtake l (by omega) _ _ _ _ _ (by omega), Option.bind_some, Option.bind_some, same _ _ (by omega) _ (by omega), Option.bind_some, if_pos (by simp), if_pos rfl, w64 _ (by omega)]
    exact take_loop l hl now ask ha n (i + 1) k (by omega) (by omega)
theorem Pu.OffersTakeSpec (l0 : List S26) (a1 : Int) (w1 : (Lit.int .i64 a1).wf = true) (y : S24) (a3 : Int) (w3 : (Lit.int .i64 a3).wf = true) : ∃ k, sizarlaw31_OffersTakeSpec.f k l0 a1 y.f0 y.f1 a3 = some true := by
  refine ⟨300, ?_⟩
  unfold sizarlaw31_OffersTakeSpec.f
  rw [sane, Option.bind_some, if_pos rfl, few, Option.bind_some]
  by_cases h : l0.length ≤ 40
  · rw [if_pos (by simpa using h), Option.bind_some]
    by_cases h0 : (l0.length : Int) > 0
    · have e1 : wrap64 ((l0.length : Int) / 2) = (l0.length : Int) / 2 := by unfold wrap64; omega
      have e2 : wrap64 ((l0.length : Int) - 1) = (l0.length : Int) - 1 := by unfold wrap64; omega
      rw [if_pos h0, if_pos (by omega), e1, e2, if_pos (by omega), if_pos (by omega), if_pos (by omega), if_pos (by omega), Option.bind_some, if_pos (by simp)]
      simp only [sizarlaw31_OffersTakeSpec.j0]
      exact take_loop l0 h a3 _ (by simp) 4 0 _ (by simp) (by omega)
    · rw [if_neg h0]
      simp only [sizarlaw31_OffersTakeSpec.j0]
      exact take_loop l0 h a3 _ (by simp) 1 0 _ (by simp) (by omega)
  · rw [if_neg (by simpa using h)]
end Go.Proofs.Ytnegohkckgfbiaa.X
-- The row of the law OffersTakeSpec, out of its pure proof and its walk (written by wip/mkrow.py).
namespace Go.Proofs.Ytnegohkckgfbiaa.offersTakeSpec
open Go.ChangeShapes Go.WideShapes Go.ChangeAt Go.RowKit Go.Proofs.YtnegohkckgfbiaaW.PrintWords Go.Proofs.YtnegohkckgfbiaaW.Opn Go.Proofs.Ytnegohkckgfbiaa.X
open Go.ChangeMaps (open_string shut_string)
set_option linter.unusedVariables false
theorem own : ownKnob Try.prog.godebug = none := by kernel_rfl
theorem laidOut : laidOutB Try.prog = true := by kernel_rfl
set_option maxRecDepth 100000 in
theorem lifted (os : Os) (started : os.Started) (H : Type) (enc : TypeId × Value → H) :
    ReturnsInHanded {} Try.checked os 5 .any (Rows.offersTakeSpecSpec.pre6 enc Try.prog Try.f5 Rows.offersTakeSpecRow.domain false) (Rows.offersTakeSpecSpec.post enc Try.prog Try.f5 false true false false) := by
  refine returnsInHanded_of_change_sized (C := Try.checked) own started (by kernel_rfl) Try.func5
    (ChangeSpec.witness6 (enc := enc) (C := Try.checked) false ⟨#[], #[.slice none 0 0, .int .i64 0, .agg #[.int .i64 0,.int .i64 0], .int .i64 0], []⟩ 8 (by kernel_rfl) (by kernel_rfl) (by kernel_rfl) (by kernel_rfl)) ?_
  intro W base args ds gs before hval0 hW hcnd hsz0 _
  have hval : ∀ (j : Nat) t v, Try.f5.params[j]? = some t → args[j]? = some v → Value.okWide Try.prog W .any base t v := hval0
  have hW' := hW
  obtain ⟨p, q, hA0, hV, rfl, hfz, hnd⟩ := hW
  have hA : DataW.TrodAll enc Try.prog W 0 (fun _ => true) true Try.f5.params.toList args.toList ds p := hA0
  rw [Try.params5] at hA hval
  obtain ⟨v0, vs0, d0, ds0, p0, q0, hargs, rfl, rfl, h0, r0⟩ := trodAll_cons hA
  obtain ⟨v1, vs1, d1, ds1, p1, q1, rfl, rfl, rfl, h1, r1⟩ := trodAll_cons r0
  obtain ⟨v2, vs2, d2, ds2, p2, q2, rfl, rfl, rfl, h2, r2⟩ := trodAll_cons r1
  obtain ⟨v3, vs3, d3, ds3, p3, q3, rfl, rfl, rfl, h3, r3⟩ := trodAll_cons r2
  obtain ⟨rfl, rfl, rfl⟩ := trodAll_nil r3
  obtain rfl : args = #[v0, v1, v2, v3] := by cases args; simp_all
  obtain ⟨rfl, rfl⟩ := trodVars_none hV
  have k0 := h0
  have lt0 : ∀ x ∈ p0, x.block < W.heap.size := by obtain ⟨m, hm⟩ := k0; exact DataW.trod_lt m _ _ _ hm
  obtain ⟨A0, c0, l0, rfl, hc0, hr0, ho0⟩ := Opens.arg_slice op26 Try.underlying22 (hval 0 22 v0 rfl rfl) h0
  have k1 := h1
  have lt1 : ∀ x ∈ p1, x.block < W.heap.size := by obtain ⟨m, hm⟩ := k1; exact DataW.trod_lt m _ _ _ hm
  obtain ⟨a1, rfl, rfl, rfl, w1⟩ := open_int Try.underlying3 (hval 1 3 v1 rfl rfl) h1
  have k2 := h2
  have lt2 : ∀ x ∈ p2, x.block < W.heap.size := by obtain ⟨m, hm⟩ := k2; exact DataW.trod_lt m _ _ _ hm
  obtain ⟨y2, cs2, rfl, hk2, ho2⟩ := Opens.arg_struct op24 Try.underlying24 (hval 2 24 v2 rfl rfl) h2
  obtain rfl := k24_open hk2
  have k3 := h3
  have lt3 : ∀ x ∈ p3, x.block < W.heap.size := by obtain ⟨m, hm⟩ := k3; exact DataW.trod_lt m _ _ _ hm
  obtain ⟨a3, rfl, rfl, rfl, w3⟩ := open_int Try.underlying3 (hval 3 3 v3 rfl rfl) h3
  clear hA0 hval0 hsz0
  obtain ⟨k, hk_⟩ := Pu.OffersTakeSpec l0 a1 w1 y2 a3 w3
  refine (sizarlaw31_OffersTakeSpec.calls k A0 c0 l0 a1 y2.f0 y2.f1 a3 true W hr0 hc0 hk_).mono fun e W' ⟨he, bel0⟩ => ?_
  have bel : Below W.heap.size W W' := bel0
  subst he
  exact ⟨_, rfl, _, _, _, [], _, [], hW', trodAll_mk1 (shut_bool Try.underlying4 _), (trodAll_cons_mk (Below.trod laidOut (by kernel_rfl) (of_decide_eq_true (by kernel_rfl)) k0 bel lt0) (trodAll_cons_mk (Below.trod laidOut (by kernel_rfl) (of_decide_eq_true (by kernel_rfl)) k1 bel lt1) (trodAll_cons_mk (Below.trod laidOut (by kernel_rfl) (of_decide_eq_true (by kernel_rfl)) k2 bel lt2) (trodAll_cons_mk (Below.trod laidOut (by kernel_rfl) (of_decide_eq_true (by kernel_rfl)) k3 bel lt3) trodAll_mk0)))), rfl, bel.frame _, fun h => by cases h⟩
theorem over : Rows.offersTakeSpecRow.holds Try.pinned (OpenSpec.ofChange Rows.offersTakeSpecSpec) :=
  OpenClaim.holds_of_wide 5 Try.f5 rfl rfl rfl rfl rfl rfl rfl ⟨rfl, rfl, rfl, rfl, rfl⟩ rfl rfl rfl rfl rfl (by kernel_rfl) Try.func5 (by kernel_rfl)
    (of_decide_eq_true (by kernel_rfl)) (by unfold Func.isWrapper; first | (rw [if_pos (by decide +kernel)]; kernel_rfl) | (rw [if_neg (by decide +kernel)]; exact ⟨rfl, rfl⟩))
    (fun os started H enc _ => lifted os started H enc)
end Go.Proofs.Ytnegohkckgfbiaa.offersTakeSpec
namespace Go.Proofs.Ytnegohkckgfbiaa
/-- The row, under a short name, for the claim. -/
theorem offersTakeSpec_holds : Rows.OffersTakeSpecSaid := offersTakeSpec.over
#print axioms offersTakeSpec_holds
end Go.Proofs.Ytnegohkckgfbiaa
