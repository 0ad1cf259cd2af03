/- The law OffersParts is proved, whatever its input: no condition. -/
import Derived.Test.Ytnegohkckgfbiaaqb4
import Derived.Test.Ytnegohkckgfbiaaqrx39
import Derived.ChangeOld
import Derived.OpenShut
import Derived.ProofKit
import Derived.ShutString
import Derived.SizedLaws
import Derived.Test.YtnegohkckgfbiaaRows
-- What the functions of the package offers and of its reference compute, in plain lists.
namespace Go.Proofs.Ytnegohkckgfbiaa.X
open Go.RowKit Go.Proofs.YtnegohkckgfbiaaW.PrintWords
set_option linter.unusedVariables false
set_option linter.unusedSimpArgs false
deriving instance DecidableEq for S24
deriving instance DecidableEq for S26
namespace Z
def ok (o : S26) : Bool := decide (0 ≤ o.f0 ∧ o.f0 < 20000 ∧ 0 ≤ o.f1.f0 ∧ o.f1.f0 < 4000 ∧ -1 ≤ o.f1.f1 ∧ o.f1.f1 < 4000 ∧ o.f1.f1 ≠ o.f1.f0 ∧ 1 ≤ o.f2 ∧ o.f2 ≤ 1048592)
def lt (a b : S26) : Bool := decide (a.f0 < b.f0 ∨ a.f0 = b.f0 ∧ (a.f1.f0 < b.f1.f0 ∨ a.f1.f0 = b.f1.f0 ∧ a.f1.f1 < b.f1.f1))
def key (a b : S26) : Bool := isOffer b.f0 b.f1.f0 b.f1.f1 a
theorem key_iff {a b : S26} : key a b = true ↔ a.f0 = b.f0 ∧ a.f1.f0 = b.f1.f0 ∧ a.f1.f1 = b.f1.f1 := by simp [key, isOffer]
theorem lt_trans {a b c : S26} (h : lt a b = true) (h' : lt b c = true) : lt a c = true := by
  simp only [lt, decide_eq_true_eq] at *
  omega
theorem w64 (i : Nat) (h : i < 1000000) : wrap64 ((i : Int) + 1) = ((i + 1 : Nat) : Int) := by unfold wrap64; omega
theorem rd_at {l : List S26} {i : Nat} (h : i < l.length) : rd_T26 l (i : Int) = l[i] := by simp [rd_T26, List.getD_eq_getElem?_getD, List.getElem?_eq_getElem h]

theorem fits (o : S26) : offers_fits.f o.f0 o.f1.f0 o.f1.f1 o.f2 = some (ok o) := by
  unfold offers_fits.f offers_within.f ok
  repeat' (first | split | (simp only [Option.bind_some]))
  all_goals (apply congrArg some; (try simp only [decide_eq_true_eq] at *); first | exact (decide_eq_false (by omega)).symm | exact decide_eq_decide.2 (by omega) | simp_all)
theorem before (a b : S26) : sizarref31_Before.f a.f0 a.f1.f0 a.f1.f1 a.f2 b.f0 b.f1.f0 b.f1.f1 b.f2 = some (lt a b) := by
  unfold sizarref31_Before.f lt
  repeat' split
  all_goals (simp_all <;> omega)
theorem cmp_ (a b : Int) : cmp_Compare_int.f a b = some (if a < b then -1 else if a > b then 1 else 0) := by
  unfold cmp_Compare_int.f cmp_isNaN_int.f
  simp
  repeat' split
  all_goals rfl
theorem or3 (k : Nat) (a b c : Int) : cmp_Or_int.f (k + 4) [a, b, c] = some (if a = 0 then if b = 0 then c else b else a) := by
  simp only [cmp_Or_int.f, cmp_Or_int.l0, rd, List.length_cons, List.length_nil]
  by_cases ha : a = 0 <;> by_cases hb : b = 0 <;> by_cases hc : c = 0 <;> simp [ha, hb, hc, wrap64, rd]
theorem compare_ (k : Nat) (a b : S26) : ∃ t, offers_compare.f (k + 4) a.f0 a.f1.f0 a.f1.f1 a.f2 b.f0 b.f1.f0 b.f1.f1 b.f2 = some t ∧ (t < 0 ↔ lt a b = true) ∧ (t = 0 ↔ key a b = true) := by
  unfold offers_compare.f
  simp only [cmp_, or3, Option.bind_some]
  refine ⟨_, rfl, ?_, ?_⟩
  · simp only [lt, decide_eq_true_eq]
    repeat' split
    all_goals omega
  · simp only [key_iff]
    repeat' split
    all_goals omega

/-! the lists -/
def chk : Option S26 → List S26 → Bool
  | _, [] => true
  | p, x :: r => ok x && (match p with | none => true | some q => lt q x) && chk (some x) r
theorem chk_iff : ∀ (l : List S26) (p : Option S26), chk p l = true ↔ (∀ x ∈ l, ok x = true) ∧ (∀ q, p = some q → ∀ x ∈ l, lt q x = true) ∧ l.Pairwise (fun a b => lt a b = true)
  | [], p => by simp [chk]
  | x :: r, p => by
    simp only [chk, Bool.and_eq_true, chk_iff r, List.pairwise_cons, List.mem_cons, forall_eq_or_imp]
    cases p with
    | none =>
      simp
      constructor
      · rintro ⟨h1, h2, h3, h4⟩
        exact ⟨⟨h1, h2⟩, h3, h4⟩
      · rintro ⟨⟨h1, h2⟩, h3, h4⟩
        exact ⟨h1, h2, h3, h4⟩
    | some q =>
      simp
      constructor
      · rintro ⟨⟨h1, h0⟩, h2, h3, h4⟩
        exact ⟨⟨h1, h2⟩, ⟨h0, fun x hx => lt_trans h0 (h3 x hx)⟩, h3, h4⟩
      · rintro ⟨⟨h1, h2⟩, ⟨h0, _⟩, h3, h4⟩
        exact ⟨⟨h1, h0⟩, h2, h3, h4⟩
def V (l : List S26) : Prop := (∀ x ∈ l, ok x = true) ∧ l.Pairwise (fun a b => lt a b = true)
def prev (l : List S26) : Nat → Option S26
  | 0 => none
  | i + 1 => l[i]?
def err (b : Bool) : Int := if b then 0 else 310
theorem chk_V {l : List S26} : chk none l = true ↔ V l := by rw [chk_iff]; simp [V]

theorem chk_cons (p : Option S26) (x : S26) (r : List S26) : chk p (x :: r) = (ok x && (match p with | none => true | some q => lt q x) && chk (some x) r) := by cases p <;> rfl
theorem check_loop (l : List S26) (hl : l.length ≤ 1000) : ∀ (n i k : Nat), n + i = l.length → n + 6 ≤ k → offers_Check.l0 k l l (l.length : Int) (i : Int) = some (err (chk (prev l i) (l.drop i)))
  | 0, i, k + 1, h, hk => by
    unfold offers_Check.l0
    rw [if_neg (by omega), List.drop_eq_nil_of_le (by omega)]
    rfl
  | n + 1, i, k + 1, h, hk => by
    have hi : i < l.length := by omega
    have ih := check_loop l hl n (i + 1) k (by omega) (by omega)
    unfold offers_Check.l0
    rw [if_pos (by omega), if_pos (by omega), if_pos (by omega), rd_at hi, fits, Option.bind_some, List.drop_eq_getElem_cons hi, chk_cons]
    by_cases ho : ok l[i] = true
    · rw [if_pos ho, ho]
      cases i with
      | zero =>
        rw [if_neg (by omega), w64 _ (by omega), ih]
        simp [prev, List.getElem?_eq_getElem hi]
      | succ j =>
        have hw : wrap64 (((j + 1 : Nat) : Int) - 1) = ((j : Nat) : Int) := by unfold wrap64; omega
        rw [if_pos (by omega), hw, if_pos (by omega), if_pos (by omega), rd_at (show j < l.length by omega)]
        obtain ⟨k', rfl⟩ : ∃ k', k = k' + 4 := ⟨k - 4, by omega⟩
        obtain ⟨t, ht, h1, h2⟩ := compare_ k' l[j] l[j + 1]
        rw [ht, Option.bind_some, w64 _ (by omega), ih]
        have hp : prev l (j + 1) = some l[j] := by simp [prev]
        have hp' : prev l (j + 1 + 1) = some l[j + 1] := by simp [prev]
        rw [hp, hp']
        by_cases hlt : lt l[j] l[j + 1] = true
        · rw [if_neg (by have := h1.2 hlt; omega)]
          simp [hlt]
        · rw [if_pos (by have := mt h1.1 hlt; omega)]
          simp [hlt, err]
    · rw [if_neg ho]
      simp [ho, err]
theorem check (l : List S26) (hl : l.length ≤ 1000) (k : Nat) (hk : l.length + 6 ≤ k) : offers_Check.f k l = some (err (chk none l)) := by
  have := check_loop l hl l.length 0 k (by omega) hk
  simpa [offers_Check.f, prev] using this

theorem same_loop (l m : List S26) (hl : l.length ≤ 1000) (he : l.length = m.length) : ∀ (n i k : Nat), n + i = l.length → n + 1 ≤ k → sizarref31_Same.l0 k l m (i : Int) = some (decide (l.drop i = m.drop i))
  | 0, i, k + 1, h, hk => by
    unfold sizarref31_Same.l0
    rw [if_neg (by omega), List.drop_eq_nil_of_le (by omega), List.drop_eq_nil_of_le (by omega)]
    simp
  | n + 1, i, k + 1, h, hk => by
    have hi : i < l.length := by omega
    have hi' : i < m.length := by omega
    have ih := same_loop l m hl he n (i + 1) k (by omega) (by omega)
    unfold sizarref31_Same.l0
    rw [if_pos (by omega), if_pos (by omega), if_pos (by omega), rd_at hi, rd_at hi', w64 _ (by omega), ih, List.drop_eq_getElem_cons hi, List.drop_eq_getElem_cons hi']
    generalize l[i] = x
    generalize m[i] = y
    obtain ⟨x0, ⟨x1, x2⟩, x3⟩ := x
    obtain ⟨y0, ⟨y1, y2⟩, y3⟩ := y
    by_cases h0 : x0 = y0 <;> by_cases h1 : x1 = y1 <;> by_cases h2 : x2 = y2 <;> by_cases h3 : x3 = y3 <;> simp [h0, h1, h2, h3]
theorem same (l m : List S26) (hl : l.length ≤ 1000) (k : Nat) (hk : l.length + 1 ≤ k) : sizarref31_Same.f k l m = some (decide (l = m)) := by
  unfold sizarref31_Same.f
  by_cases he : l.length = m.length
  · rw [if_pos (by omega)]
    have := same_loop l m hl he l.length 0 k (by omega) hk
    simpa using this
  · rw [if_neg (by omega)]
    simp
    intro h
    exact he (by rw [h])
end Z
end Go.Proofs.Ytnegohkckgfbiaa.X
-- Make, Expire, Take, Held: both sides compute the same plain functions of lists.
namespace Go.Proofs.Ytnegohkckgfbiaa.X
open Go.RowKit Go.Proofs.YtnegohkckgfbiaaW.PrintWords
set_option linter.unusedVariables false
set_option linter.unusedSimpArgs false
namespace Z
def stay (l : List S26) (now : Int) : List S26 := l.filter (fun o => decide (now < o.f2))
def gone (l : List S26) (now : Int) : List S26 := l.filter (fun o => !decide (now < o.f2))
theorem expire (l : List S26) (hl : l.length ≤ 1000) (now : Int) : offers_Expire.f l now = some (stay l now, gone l now) := by
  unfold offers_Expire.f
  rw [if_pos (by omega)]
  rfl

def has (s : Int) (o : S26) : Bool := o.f1.f0 == s || o.f1.f1 == s
def held (l : List S26) (s : Int) : Nat := if s < 0 then 0 else l.countP (has s)
theorem held_loop (l : List S26) (hl : l.length ≤ 1000) (s : Int) : ∀ (n i k c : Nat), n + i = l.length → n + 1 ≤ k → c + n ≤ 1000 → offers_Held.l0 k s (c : Int) l (l.length : Int) (i : Int) = some ((c + (l.drop i).countP (has s) : Nat) : Int)
  | 0, i, k + 1, c, h, hk, hc => by
    unfold offers_Held.l0
    rw [if_neg (by omega), List.drop_eq_nil_of_le (by omega)]
    simp
  | n + 1, i, k + 1, c, h, hk, hc => by
    have hi : i < l.length := by omega
    unfold offers_Held.l0
    rw [if_pos (by omega), if_pos (by omega), if_pos (by omega), rd_at hi, w64 _ (by omega), w64 _ (by omega), List.drop_eq_getElem_cons hi, List.countP_cons, held_loop l hl s n (i + 1) k (c + 1) (by omega) (by omega) (by omega), held_loop l hl s n (i + 1) k c (by omega) (by omega) (by omega)]
    unfold has
    by_cases h0 : l[i].f1.f0 = s <;> by_cases h1 : l[i].f1.f1 = s <;> simp [h0, h1] <;> omega
theorem held_ (l : List S26) (hl : l.length ≤ 1000) (s : Int) (k : Nat) (hk : l.length + 1 ≤ k) : offers_Held.f k l s = some (held l s : Int) := by
  unfold offers_Held.f held
  split
  · rfl
  · have := held_loop l hl s l.length 0 k 0 (by omega) hk (by omega)
    simpa using this
theorem few (l : List S26) : sizarref31_Few.f l = some (decide (l.length ≤ 40)) := by
  unfold sizarref31_Few.f
  congr 1
  rw [decide_eq_decide]
  omega
end Z
end Go.Proofs.Ytnegohkckgfbiaa.X
-- The seven laws of the package offers, in plain lists.
namespace Go.Proofs.Ytnegohkckgfbiaa.X
open Go.RowKit Go.Proofs.YtnegohkckgfbiaaW.PrintWords
set_option linter.unusedVariables false
set_option linter.unusedSimpArgs false
namespace Z
theorem sane : sizarlaw31_sane.f 300 = some true := by decide +kernel
theorem stay_len (l : List S26) (now : Int) : (stay l now).length ≤ l.length := List.length_filter_le _ _
theorem gone_len (l : List S26) (now : Int) : (gone l now).length ≤ l.length := List.length_filter_le _ _
theorem both_len (now : Int) : ∀ l : List S26, (stay l now).length + (gone l now).length = l.length
  | [] => rfl
  | x :: r => by
    have ih := both_len now r
    simp only [stay, gone, List.filter_cons] at *
    by_cases h : now < x.f2 <;> simp [h] at * <;> omega
theorem both_count (p : S26 → Bool) (now : Int) : ∀ l : List S26, (stay l now).countP p + (gone l now).countP p = l.countP p
  | [] => rfl
  | x :: r => by
    have ih := both_count p now r
    simp only [stay, gone, List.filter_cons] at *
    by_cases h : now < x.f2 <;> simp [h, List.countP_cons] at * <;> omega
theorem stay_stay (l : List S26) {now later : Int} (h : now ≤ later) : stay (stay l now) later = stay l later := by
  unfold stay
  rw [List.filter_filter]
  congr 1
  funext o
  rw [← Bool.decide_and, decide_eq_decide]
  omega
theorem V_filter {l : List S26} (h : V l) (p : S26 → Bool) : V (l.filter p) := ⟨fun x hx => h.1 x (List.mem_filter.1 hx).1, h.2.filter p⟩
end Z
open Z
theorem Z.parts_loop (l : List S26) (hl : l.length ≤ 40) (now : Int) : ∀ (n i k : Nat) (A B : List S26), n + i = l.length → 2 * n + 100 ≤ k → stay l now = A ++ stay (l.drop i) now → gone l now = B ++ gone (l.drop i) now → sizarlaw31_OffersParts.l0 k l now (stay l now) (gone l now) (A.length : Int) (B.length : Int) (i : Int) = some true
  | 0, i, k + 1, A, B, h, hk, hA, hB => by
    have := stay_len l now
    have := gone_len l now
    unfold sizarlaw31_OffersParts.l0
    rw [if_neg (by omega), check l (by omega) _ (by omega), check _ (by omega) _ (by omega), check _ (by omega) _ (by omega), Option.bind_some, Option.bind_some, Option.bind_some]
    cases hc : chk none l with
    | false => rfl
    | true =>
      have hV := chk_V.1 hc
      have e1 : chk none (stay l now) = true := chk_V.2 (V_filter hV _)
      have e2 : chk none (gone l now) = true := chk_V.2 (V_filter hV _)
      rw [e1, e2]
      rfl
  | n + 1, i, k + 2, A, B, h, hk, hA, hB => by
    have hi : i < l.length := by omega
    have s1 := stay_len l now
    have s2 := gone_len l now
    unfold sizarlaw31_OffersParts.l0
    rw [if_pos (by omega)]
    rw [List.drop_eq_getElem_cons hi] at hA hB
    by_cases hn : now < l[i].f2
    · have eA : stay (l[i] :: l.drop (i + 1)) now = l[i] :: stay (l.drop (i + 1)) now := by simp only [stay, List.filter_cons, hn, decide_true, if_true]
      have eB : gone (l[i] :: l.drop (i + 1)) now = gone (l.drop (i + 1)) now := by simp only [gone, List.filter_cons, hn, decide_true, Bool.not_true, if_false, Bool.false_eq_true]
      rw [eA] at hA
      rw [eB] at hB
      have hlA : A.length < (stay l now).length := by rw [hA]; simp
      have hgA : (stay l now)[A.length] = l[i] := by simp [hA]
      rw [if_pos (by omega), if_pos (by omega), if_pos (by omega), rd_at hlA, rd_at hi, hgA]
      simp only [beq_self_eq_true, Bool.and_self, if_true, sizarlaw31_OffersParts.j3, hn, decide_true]
      rw [w64 _ (by omega), w64 _ (by omega)]
      have := parts_loop l hl now n (i + 1) k (A ++ [l[i]]) B (by omega) (by omega) (by rw [hA]; simp) hB
      simpa using this
    · have eA : stay (l[i] :: l.drop (i + 1)) now = stay (l.drop (i + 1)) now := by simp only [stay, List.filter_cons, hn, decide_false, if_false, Bool.false_eq_true]
      have eB : gone (l[i] :: l.drop (i + 1)) now = l[i] :: gone (l.drop (i + 1)) now := by simp only [gone, List.filter_cons, hn, decide_false, Bool.not_false, if_true]
      rw [eA] at hA
      rw [eB] at hB
      have hlB : B.length < (gone l now).length := by rw [hB]; simp
      have hgB : (gone l now)[B.length] = l[i] := by simp [hB]
      have key : sizarlaw31_OffersParts.j3 (k + 1) l now (stay l now) (gone l now) (A.length : Int) (B.length : Int) (i : Int) false = some true := by
        simp only [sizarlaw31_OffersParts.j3]
        rw [if_neg (by simp), if_pos (by omega), if_pos (by omega), if_pos (by omega), if_pos (by omega), rd_at hlB, rd_at hi, hgB]
        simp only [beq_self_eq_true, Bool.and_self, if_true]
        rw [if_pos (by omega), w64 _ (by omega), w64 _ (by omega)]
        have := parts_loop l hl now n (i + 1) k A (B ++ [l[i]]) (by omega) (by omega) hA (by rw [hB]; simp)
        simpa using this
      split
      · rw [if_pos (by omega), if_pos (by omega), rd_at hi]
        split
        · rw [decide_eq_false hn]
          exact key
        · exact key
      · exact key
theorem Pu.OffersParts (l0 : List S26) (a1 : Int) (w1 : (Lit.int .i64 a1).wf = true) (a2 : Int) (w2 : (Lit.int .u16 a2).wf = true) (a3 : Int) (w3 : (Lit.int .i64 a3).wf = true) : ∃ k, sizarlaw31_OffersParts.f k l0 a1 a2 a3 = some true := by
  refine ⟨300, ?_⟩
  have hu : 0 ≤ a2 ∧ a2 ≤ 65535 := by simpa [Lit.wf, IntKind.min, IntKind.max, IntKind.signed, IntKind.bits] using w2
  unfold sizarlaw31_OffersParts.f
  rw [sane, Option.bind_some, if_pos rfl, few, Option.bind_some]
  by_cases h : l0.length ≤ 40
  · rw [if_pos (by simpa using h)]
    by_cases h1 : a1 > 1048576
    · rw [if_pos h1]
      rfl
    · rw [if_neg h1]
      by_cases h2 : a1 < 0
      · rw [decide_eq_true h2]
        rfl
      · rw [decide_eq_false h2]
        simp only [sizarlaw31_OffersParts.j0]
        have e1 : wrap64 (a1 + wrap64 a2) = a1 + a2 := by unfold wrap64; omega
        have s1 := stay_len l0 a1
        have s2 := gone_len l0 a1
        have s3 := stay_len l0 (a1 + a2)
        have s4 := stay_len (stay l0 a1) (a1 + a2)
        have b1 := both_len a1 l0
        have b2 := both_len (a1 + a2) (stay l0 a1)
        have hh : wrap64 ((held (stay l0 a1) a3 : Int) + (held (gone l0 a1) a3 : Int)) = (held l0 a3 : Int) := by
          have c := both_count (has a3) a1 l0
          have c2 : l0.countP (has a3) ≤ l0.length := List.countP_le_length
          unfold held
          split
          · simp [wrap64]
          · unfold wrap64
            omega
        rw [if_neg (by simp), e1, expire l0 (by omega), expire l0 (by omega), Option.bind_some, Option.bind_some, expire _ (by simp; omega), Option.bind_some, same _ _ (by simp; omega) _ (by simp; omega), Option.bind_some, if_pos (by simp only [decide_eq_true_eq]; exact (stay_stay l0 (by omega)).symm)]
        simp only []
        rw [if_pos (by unfold wrap64; omega), if_pos (by unfold wrap64; omega), held_ _ (by omega) _ _ (by omega), held_ _ (by omega) _ _ (by omega), held_ _ (by omega) _ _ (by omega), Option.bind_some, Option.bind_some, Option.bind_some, hh]
        simp only [sizarlaw31_OffersParts.j1, bne_self_eq_false]
        rw [if_neg (by simp)]
        exact parts_loop l0 h a1 l0.length 0 _ [] [] (by omega) (by omega) (by simp) (by simp)
  · rw [if_neg (by simpa using h)]
    rfl
end Go.Proofs.Ytnegohkckgfbiaa.X
-- The row of the law OffersParts, out of its pure proof and its walk (written by wip/mkrow.py).
namespace Go.Proofs.Ytnegohkckgfbiaa.offersParts
open Go.ChangeShapes Go.WideShapes Go.ChangeAt Go.RowKit Go.Proofs.YtnegohkckgfbiaaW.PrintWords Go.Proofs.YtnegohkckgfbiaaW.Opn Go.Proofs.Ytnegohkckgfbiaa.X
open Go.ChangeMaps (open_string shut_string)
set_option linter.unusedVariables false
theorem own : ownKnob Try.prog.godebug = none := by kernel_rfl
theorem laidOut : laidOutB Try.prog = true := by kernel_rfl
set_option maxRecDepth 100000 in
theorem lifted (os : Os) (started : os.Started) (H : Type) (enc : TypeId × Value → H) :
    ReturnsInHanded {} Try.checked os 7 .any (Rows.offersPartsSpec.pre6 enc Try.prog Try.f7 Rows.offersPartsRow.domain false) (Rows.offersPartsSpec.post enc Try.prog Try.f7 false true false false) := by
  refine returnsInHanded_of_change_sized (C := Try.checked) own started (by kernel_rfl) Try.func7
    (ChangeSpec.witness6 (enc := enc) (C := Try.checked) false ⟨#[], #[.slice none 0 0, .int .i64 0, .int .u16 0, .int .i64 0], []⟩ 8 (by kernel_rfl) (by kernel_rfl) (by kernel_rfl) (by kernel_rfl)) ?_
  intro W base args ds gs before hval0 hW hcnd hsz0 _
  have hval : ∀ (j : Nat) t v, Try.f7.params[j]? = some t → args[j]? = some v → Value.okWide Try.prog W .any base t v := hval0
  have hW' := hW
  obtain ⟨p, q, hA0, hV, rfl, hfz, hnd⟩ := hW
  have hA : DataW.TrodAll enc Try.prog W 0 (fun _ => true) true Try.f7.params.toList args.toList ds p := hA0
  rw [Try.params7] at hA hval
  obtain ⟨v0, vs0, d0, ds0, p0, q0, hargs, rfl, rfl, h0, r0⟩ := trodAll_cons hA
  obtain ⟨v1, vs1, d1, ds1, p1, q1, rfl, rfl, rfl, h1, r1⟩ := trodAll_cons r0
  obtain ⟨v2, vs2, d2, ds2, p2, q2, rfl, rfl, rfl, h2, r2⟩ := trodAll_cons r1
  obtain ⟨v3, vs3, d3, ds3, p3, q3, rfl, rfl, rfl, h3, r3⟩ := trodAll_cons r2
  obtain ⟨rfl, rfl, rfl⟩ := trodAll_nil r3
  obtain rfl : args = #[v0, v1, v2, v3] := by cases args; simp_all
  obtain ⟨rfl, rfl⟩ := trodVars_none hV
  have k0 := h0
  have lt0 : ∀ x ∈ p0, x.block < W.heap.size := by obtain ⟨m, hm⟩ := k0; exact DataW.trod_lt m _ _ _ hm
  obtain ⟨A0, c0, l0, rfl, hc0, hr0, ho0⟩ := Opens.arg_slice op26 Try.underlying22 (hval 0 22 v0 rfl rfl) h0
  have k1 := h1
  have lt1 : ∀ x ∈ p1, x.block < W.heap.size := by obtain ⟨m, hm⟩ := k1; exact DataW.trod_lt m _ _ _ hm
  obtain ⟨a1, rfl, rfl, rfl, w1⟩ := open_int Try.underlying3 (hval 1 3 v1 rfl rfl) h1
  have k2 := h2
  have lt2 : ∀ x ∈ p2, x.block < W.heap.size := by obtain ⟨m, hm⟩ := k2; exact DataW.trod_lt m _ _ _ hm
  obtain ⟨a2, rfl, rfl, rfl, w2⟩ := open_int Try.underlying42 (hval 2 42 v2 rfl rfl) h2
  have k3 := h3
  have lt3 : ∀ x ∈ p3, x.block < W.heap.size := by obtain ⟨m, hm⟩ := k3; exact DataW.trod_lt m _ _ _ hm
  obtain ⟨a3, rfl, rfl, rfl, w3⟩ := open_int Try.underlying3 (hval 3 3 v3 rfl rfl) h3
  clear hA0 hval0 hsz0
  obtain ⟨k, hk_⟩ := Pu.OffersParts l0 a1 w1 a2 w2 a3 w3
  refine (sizarlaw31_OffersParts.calls k A0 c0 l0 a1 a2 a3 true W hr0 hc0 hk_).mono fun e W' ⟨he, bel0⟩ => ?_
  have bel : Below W.heap.size W W' := bel0
  subst he
  exact ⟨_, rfl, _, _, _, [], _, [], hW', trodAll_mk1 (shut_bool Try.underlying4 _), (trodAll_cons_mk (Below.trod laidOut (by kernel_rfl) (of_decide_eq_true (by kernel_rfl)) k0 bel lt0) (trodAll_cons_mk (Below.trod laidOut (by kernel_rfl) (of_decide_eq_true (by kernel_rfl)) k1 bel lt1) (trodAll_cons_mk (Below.trod laidOut (by kernel_rfl) (of_decide_eq_true (by kernel_rfl)) k2 bel lt2) (trodAll_cons_mk (Below.trod laidOut (by kernel_rfl) (of_decide_eq_true (by kernel_rfl)) k3 bel lt3) trodAll_mk0)))), rfl, bel.frame _, fun h => by cases h⟩
theorem over : Rows.offersPartsRow.holds Try.pinned (OpenSpec.ofChange Rows.offersPartsSpec) :=
  OpenClaim.holds_of_wide 7 Try.f7 rfl rfl rfl rfl rfl rfl rfl ⟨rfl, rfl, rfl, rfl, rfl⟩ rfl rfl rfl rfl rfl (by kernel_rfl) Try.func7 (by kernel_rfl)
    (of_decide_eq_true (by kernel_rfl)) (by unfold Func.isWrapper; first | (rw [if_pos (by decide +kernel)]; kernel_rfl) | (rw [if_neg (by decide +kernel)]; exact ⟨rfl, rfl⟩))
    (fun os started H enc _ => lifted os started H enc)
end Go.Proofs.Ytnegohkckgfbiaa.offersParts
namespace Go.Proofs.Ytnegohkckgfbiaa
/-- The row, under a short name, for the claim. -/
theorem offersParts_holds : Rows.OffersPartsSaid := offersParts.over
#print axioms offersParts_holds
end Go.Proofs.Ytnegohkckgfbiaa
