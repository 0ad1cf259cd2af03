/- The law WaitingJoinSpec is proved, whatever its input: no condition. -/
import Derived.Test.Ytjffojmpfdoodaaqb5
import Derived.Test.Ytjffojmpfdoodaaqrx31
import Derived.Test.Ytjffojmpfdoodaaqrx32
import Derived.Test.Ytjffojmpfdoodaaqrx33
import Derived.Test.Ytjffojmpfdoodaaqrx34
import Derived.Test.Ytjffojmpfdoodaaqrx35
import Derived.Test.Ytjffojmpfdoodaaqrx36
import Derived.Test.Ytjffojmpfdoodaaqrx37
import Derived.Test.Ytjffojmpfdoodaaqrx38
import Derived.Test.Ytjffojmpfdoodaaqrx39
import Derived.ChangeOld
import Derived.OpenShut
import Derived.ProofKit
import Derived.ShutString
import Derived.SizedLaws
import Derived.Test.YtjffojmpfdoodaaRows
-- What the functions of the package waiting and of its reference compute, in plain lists.
namespace Go.Proofs.Ytjffojmpfdoodaa.X
open Go.RowKit Go.Proofs.YtjffojmpfdoodaaW.PrintWords
set_option linter.unusedVariables false
set_option linter.unusedSimpArgs false
deriving instance DecidableEq for S24
deriving instance DecidableEq for S26
namespace Z
def ok (o : S26) : Bool := decide (0 ≤ o.f0 ∧ o.f0 < 20000 ∧ 0 ≤ o.f1.f0 ∧ o.f1.f0 < 4000 ∧ -1 ≤ o.f1.f1 ∧ o.f1.f1 < 4000 ∧ o.f1.f1 ≠ o.f1.f0 ∧ 0 ≤ o.f2 ∧ o.f2 ≤ 1073741824 ∧ 0 ≤ o.f3 ∧ o.f3 ≤ 1048576)
def lt (a b : S26) : Bool := decide (a.f1.f0 < b.f1.f0 ∨ a.f1.f0 = b.f1.f0 ∧ (a.f1.f1 < b.f1.f1 ∨ a.f1.f1 = b.f1.f1 ∧ (a.f2 < b.f2 ∨ a.f2 = b.f2 ∧ (a.f3 < b.f3 ∨ a.f3 = b.f3 ∧ a.f0 < b.f0))))
theorem same_iff {a b : S26} : same a b = true ↔ a.f0 = b.f0 ∧ a.f1.f0 = b.f1.f0 ∧ a.f1.f1 = b.f1.f1 := by simp [same]
theorem same_comm (a b : S26) : same a b = same b a := by
  rw [Bool.eq_iff_iff, same_iff, same_iff]
  constructor <;> (rintro ⟨h1, h2, h3⟩; exact ⟨h1.symm, h2.symm, h3.symm⟩)
theorem same_self (a : S26) : same a a = true := by simp [same]
theorem lt_trans {a b c : S26} (h : lt a b = true) (h' : lt b c = true) : lt a c = true := by
  simp only [lt, decide_eq_true_eq] at *
  omega
theorem w64 (i : Nat) (h : i < 1000000) : wrap64 ((i : Int) + 1) = ((i + 1 : Nat) : Int) := by unfold wrap64; omega
theorem rd_at {l : List S26} {i : Nat} (h : i < l.length) : rd_T26 l (i : Int) = l[i] := by simp [rd_T26, List.getD_eq_getElem?_getD, List.getElem?_eq_getElem h]
theorem prec_lt (a b : S26) : prec [a.f1.f0, a.f1.f1, a.f2, a.f3, a.f0] [b.f1.f0, b.f1.f1, b.f2, b.f3, b.f0] = lt a b := by
  simp only [prec, lt]
  repeat' split
  all_goals (first | (rw [decide_eq_decide]; omega) | (symm; rw [decide_eq_false_iff_not]; omega))
theorem byl_lt (a b : S26) : (byl [a.f1.f0, a.f1.f1, a.f2, a.f3, a.f0] [b.f1.f0, b.f1.f1, b.f2, b.f3, b.f0] < 0 ↔ lt a b = true) ∧ (0 ≤ byl [a.f1.f0, a.f1.f1, a.f2, a.f3, a.f0] [b.f1.f0, b.f1.f1, b.f2, b.f3, b.f0] ↔ lt a b = false) := by
  have h : byl [a.f1.f0, a.f1.f1, a.f2, a.f3, a.f0] [b.f1.f0, b.f1.f1, b.f2, b.f3, b.f0] < 0 ↔ lt a b = true := by
    simp only [byl, cmpI, lt, decide_eq_true_eq]
    repeat' split
    all_goals omega
  refine ⟨h, ?_⟩
  rw [Bool.eq_false_iff, Ne, ← h]
  omega
theorem compare_ (a b : S26) : ∃ t, waiting_compare.f a.f0 a.f1.f0 a.f1.f1 a.f2 a.f3 b.f0 b.f1.f0 b.f1.f1 b.f2 b.f3 = some t ∧ (t < 0 ↔ lt a b = true) ∧ (0 ≤ t ↔ lt a b = false) := ⟨_, rfl, byl_lt a b⟩
theorem precedes_ (a b : S26) : sizarref26_Precedes.f a.f0 a.f1.f0 a.f1.f1 a.f2 a.f3 b.f0 b.f1.f0 b.f1.f1 b.f2 b.f3 = some (lt a b) := by
  unfold sizarref26_Precedes.f
  rw [prec_lt]
def err (b : Bool) : Int := if b then 0 else 260
end Z
end Go.Proofs.Ytjffojmpfdoodaa.X
-- The theory of waitlists: lists in strict order, each student once a bundle.
namespace Go.Proofs.Ytjffojmpfdoodaa.X
open Go.RowKit Go.Proofs.YtjffojmpfdoodaaW.PrintWords
set_option linter.unusedVariables false
set_option linter.unusedSimpArgs false
namespace Z
def V (l : List S26) : Prop := (∀ x ∈ l, ok x = true) ∧ l.Pairwise (fun a b => lt a b = true) ∧ l.Pairwise (fun a b => same a b = false)
def good (l : List S26) (i : Nat) : Bool := ok (rd_T26 l i) && (i == 0 || lt (rd_T26 l ((i - 1 : Nat) : Int)) (rd_T26 l i)) && !(l.take i).any (same (rd_T26 l i))
def chkB (l : List S26) : Nat → Nat → Bool
  | 0, _ => true
  | n + 1, i => good l i && chkB l n (i + 1)
def chk (l : List S26) : Bool := chkB l l.length 0
theorem chkB_iff (l : List S26) : ∀ n i, chkB l n i = true ↔ ∀ j, i ≤ j → j < i + n → good l j = true
  | 0, i => by simp only [chkB, true_iff]; intro j h1 h2; omega
  | n + 1, i => by
    rw [chkB, Bool.and_eq_true, chkB_iff l n (i + 1)]
    constructor
    · rintro ⟨h0, h⟩ j h1 h2
      by_cases e : j = i
      · rw [e]; exact h0
      · exact h j (by omega) (by omega)
    · intro h
      exact ⟨h i (Nat.le_refl _) (by omega), fun j h1 h2 => h j (by omega) (by omega)⟩
theorem chk_V {l : List S26} : chk l = true ↔ V l := by
  unfold chk
  rw [chkB_iff]
  constructor
  · intro h
    have hg : ∀ j (hj : j < l.length), good l j = true := fun j hj => h j (Nat.zero_le _) (by omega)
    refine ⟨fun x hx => ?_, ?_, ?_⟩
    · obtain ⟨j, hj, rfl⟩ := List.getElem_of_mem hx
      have := hg j hj
      simp only [good, Bool.and_eq_true, rd_at hj] at this
      exact this.1.1
    · rw [List.pairwise_iff_getElem]
      have step : ∀ j (hj : j + 1 < l.length), lt l[j] l[j + 1] = true := by
        intro j hj
        have := hg (j + 1) hj
        simp only [good, Bool.and_eq_true, Bool.or_eq_true, Nat.add_sub_cancel, rd_at hj, rd_at (show j < l.length by omega)] at this
        rcases this.1.2 with h' | h'
        · simp at h'
        · exact h'
      have all : ∀ d i (hi : i + d + 1 < l.length), lt l[i] l[i + d + 1] = true := by
        intro d
        induction d with
        | zero => intro i hi; exact step i hi
        | succ d ih => intro i hi; exact lt_trans (ih i (by omega)) (step (i + d + 1) (by omega))
      intro i j hi hj hij
      obtain ⟨d, rfl⟩ : ∃ d, j = i + d + 1 := ⟨j - i - 1, by omega⟩
      exact all d i hj
    · rw [List.pairwise_iff_getElem]
      intro i j hi hj hij
      have := hg j hj
      simp only [good, Bool.and_eq_true, rd_at hj, Bool.not_eq_true', List.any_eq_false] at this
      have h2 := this.2 l[i] (by rw [List.mem_iff_getElem]; exact ⟨i, by rw [List.length_take]; omega, by simp⟩)
      rw [same_comm]
      simpa using h2
  · rintro ⟨h1, h2, h3⟩ j _ hj
    have hj : j < l.length := by omega
    rw [List.pairwise_iff_getElem] at h2 h3
    simp only [good, Bool.and_eq_true, rd_at hj]
    refine ⟨⟨h1 _ (List.getElem_mem _), ?_⟩, ?_⟩
    · cases j with
      | zero => rfl
      | succ i =>
        have := h2 i (i + 1) (by omega) hj (by omega)
        simp [rd_at (show i < l.length by omega), this]
    · rw [Bool.not_eq_true', List.any_eq_false]
      intro x hx
      rw [List.mem_iff_getElem] at hx
      obtain ⟨i, hi, rfl⟩ := hx
      rw [List.length_take] at hi
      have := h3 i j (by omega) hj (by omega)
      rw [same_comm] at this
      simpa using this
/-! putting one in -/
def pos : List S26 → S26 → Nat
  | [], _ => 0
  | x :: r, o => if lt x o then pos r o + 1 else 0
def ins : List S26 → S26 → List S26
  | [], o => [o]
  | x :: r, o => if lt x o then x :: ins r o else o :: x :: r
theorem pos_le (o : S26) : ∀ l, pos l o ≤ l.length
  | [] => Nat.le_refl _
  | x :: r => by
    have := pos_le o r
    simp only [pos, List.length_cons]
    split <;> omega
theorem ins_eq (o : S26) : ∀ l, l.take (pos l o) ++ o :: l.drop (pos l o) = ins l o
  | [] => rfl
  | x :: r => by
    simp only [pos, ins]
    split
    · simp [ins_eq o r]
    · simp
theorem pos_lt (o : S26) : ∀ (l : List S26), l.Pairwise (fun a b => lt a b = true) → ∀ m (h : m < l.length), lt l[m] o = decide (m < pos l o)
  | x :: r, hp, 0, h => by
    simp only [pos, List.getElem_cons_zero]
    split <;> simp_all
  | x :: r, hp, m + 1, h => by
    rw [List.pairwise_cons] at hp
    simp only [List.getElem_cons_succ, pos]
    have ih := pos_lt o r hp.2 m (by simpa using h)
    split
    · rw [ih]
      simp
    · rename_i hx
      simp only [Nat.not_lt_zero, decide_false]
      rw [Bool.eq_false_iff]
      intro hm
      exact hx (lt_trans (hp.1 _ (List.getElem_mem _)) hm)
theorem ins_len (o : S26) : ∀ l, (ins l o).length = l.length + 1
  | [] => rfl
  | x :: r => by
    simp only [ins]
    split <;> simp [ins_len o r]
def met (l : List S26) (o : S26) : Bool := l.any (fun x => same x o)
/-! the index of a wait -/
theorem idx_or (p : S26 → Bool) : ∀ (l : List S26) (i : Nat), (idxFrom p l i = -1 ∧ l.any p = false) ∨ (∃ j : Nat, ∃ h : j < l.length, idxFrom p l i = ((i + j : Nat) : Int) ∧ p l[j] = true ∧ l.any p = true)
  | [], i => .inl ⟨rfl, rfl⟩
  | x :: r, i => by
    simp only [idxFrom, List.any_cons]
    by_cases hx : p x = true
    · exact .inr ⟨0, by simp, by simp [hx], by simpa using hx, by simp [hx]⟩
    · rw [if_neg hx]
      rw [Bool.not_eq_true] at hx
      rcases idx_or p r (i + 1) with ⟨h1, h2⟩ | ⟨j, h, h1, h2, h3⟩
      · exact .inl ⟨h1, by simp only [hx, h2, Bool.or_self]⟩
      · exact .inr ⟨j + 1, by simpa using h, by rw [h1]; congr 1; omega, by simpa using h2, by rw [h3, Bool.or_true]⟩
theorem any_take {l : List S26} (o : S26) (i : Nat) (hi : i < l.length) (hs : same l[i] o = true) : (idxFrom (isOffer o.f0 o.f1.f0 o.f1.f1) l 0 = (i : Int)) ↔ (l.take i).any (same o) = false := by
  have key : ∀ (l : List S26) (k i : Nat) (hi : i < l.length), same l[i] o = true → ((idxFrom (isOffer o.f0 o.f1.f0 o.f1.f1) l k = ((k + i : Nat) : Int)) ↔ (l.take i).any (same o) = false) := by
    intro l
    induction l with
    | nil => intro k i hi; simp at hi
    | cons x r ih =>
      intro k i hi hs
      simp only [idxFrom]
      cases i with
      | zero =>
        have : isOffer o.f0 o.f1.f0 o.f1.f1 x = true := hs
        simp [this]
      | succ i =>
        have hi' : i < r.length := by simpa using hi
        have hs' : same r[i] o = true := hs
        have := ih (k + 1) i hi' hs'
        rw [show k + 1 + i = k + (i + 1) by omega] at this
        rw [List.take_succ_cons, List.any_cons, same_comm o x]
        have hq : same x o = isOffer o.f0 o.f1.f0 o.f1.f1 x := rfl
        rw [hq]
        by_cases hx : isOffer o.f0 o.f1.f0 o.f1.f1 x = true
        · rw [if_pos hx, hx]
          simp
          omega
        · rw [if_neg hx, this]
          simp [hx]
  have := key l 0 i hi hs
  rwa [Nat.zero_add] at this

/-! taking one out -/
def del (l : List S26) (j : Nat) : List S26 := l.take j ++ l.drop (j + 1)
/-! places -/
def bd (a b : Int) (v : S26) : Bool := v.f1.f0 == a && v.f1.f1 == b
def fl (a b : Int) : S26 → Bool → List S26 → S26 × Bool
  | w, k, [] => (w, k)
  | w, k, v :: r => if bd a b v = true ∧ (k = false ∨ lt v w = true) then fl a b v true r else fl a b w k r
end Z
end Go.Proofs.Ytjffojmpfdoodaa.X
-- What the functions of the package waiting and of its reference answer: both sides compute the same plain functions of lists.
namespace Go.Proofs.Ytjffojmpfdoodaa.X
open Go.RowKit Go.Proofs.YtjffojmpfdoodaaW.PrintWords
set_option linter.unusedVariables false
set_option linter.unusedSimpArgs false
namespace Z
theorem in_ (a b c : Int) : waiting_in.f a b c = some (decide (b ≤ a ∧ a ≤ c)) := by
  unfold waiting_in.f
  split
  · rw [Option.some.injEq, decide_eq_decide]
    omega
  · rw [Option.some.injEq]
    symm
    rw [decide_eq_false_iff_not]
    omega
theorem fits (o : S26) : waiting_valid.f o.f0 o.f1.f0 o.f1.f1 o.f2 o.f3 = some (ok o) := by
  unfold waiting_valid.f waiting_validBundle.f ok
  simp only [in_, Option.bind_some, decide_eq_true_eq]
  by_cases h0 : 0 ≤ o.f0 ∧ o.f0 ≤ 19999
  · rw [if_pos h0]
    by_cases h1 : 0 ≤ o.f1.f0 ∧ o.f1.f0 ≤ 3999
    · rw [if_pos h1]
      by_cases h2 : -1 ≤ o.f1.f1 ∧ o.f1.f1 ≤ 3999
      · rw [if_pos h2, Option.bind_some]
        by_cases h3 : o.f1.f1 = o.f1.f0
        · rw [if_neg (by simp [h3]), Option.some.injEq]
          symm
          rw [decide_eq_false_iff_not]
          omega
        · rw [if_pos (by simp [h3])]
          by_cases h4 : 0 ≤ o.f2 ∧ o.f2 ≤ 1073741824
          · rw [if_pos h4, Option.some.injEq, decide_eq_decide]
            omega
          · rw [if_neg h4, Option.some.injEq]
            symm
            rw [decide_eq_false_iff_not]
            omega
      · rw [if_neg h2, Option.bind_some, if_neg (by simp), Option.some.injEq]
        symm
        rw [decide_eq_false_iff_not]
        omega
    · rw [if_neg h1, Option.bind_some, if_neg (by simp), Option.some.injEq]
      symm
      rw [decide_eq_false_iff_not]
      omega
  · rw [if_neg h0, Option.some.injEq]
    symm
    rw [decide_eq_false_iff_not]
    omega
theorem valid (o : S26) : sizarref26_Valid.f o.f0 o.f1.f0 o.f1.f1 o.f2 o.f3 = some (ok o) := by
  unfold sizarref26_Valid.f sizarref26_IsBundle.f ok
  repeat' (first | split | (simp only [Option.bind_some]))
  all_goals (apply congrArg some; (try simp only [decide_eq_true_eq] at *); first | exact (decide_eq_false (by omega)).symm | exact decide_eq_decide.2 (by omega) | (simp_all; done) | (simp_all; omega))
theorem check_loop (l : List S26) : ∀ n i, n + i = l.length → chkL l n i = some (err (chkB l n i))
  | 0, i, h => rfl
  | n + 1, i, h => by
    have hi : i < l.length := by omega
    have ih := check_loop l n (i + 1) (by omega)
    rw [chkL, fits, Option.bind_some, ih, chkB, good]
    have hc := (byl_lt (rd_T26 l ((i - 1 : Nat) : Int)) (rd_T26 l i)).2
    cases h1 : ok (rd_T26 l i) with
    | false => rfl
    | true =>
      rw [if_pos rfl]
      by_cases h2 : 0 < i ∧ lt (rd_T26 l ((i - 1 : Nat) : Int)) (rd_T26 l i) = false
      · rw [if_pos ⟨h2.1, hc.2 h2.2⟩, h2.2]
        have : (i == 0) = false := by simp; omega
        rw [this]
        rfl
      · rw [if_neg (fun h => h2 ⟨h.1, hc.1 h.2⟩)]
        have : (i == 0 || lt (rd_T26 l ((i - 1 : Nat) : Int)) (rd_T26 l i)) = true := by
          cases hq : lt (rd_T26 l ((i - 1 : Nat) : Int)) (rd_T26 l i) with
          | true => simp
          | false =>
            have : i = 0 := by
              rcases Nat.eq_zero_or_pos i with e | e
              · exact e
              · exact absurd ⟨e, hq⟩ h2
            simp [this]
        rw [this]
        cases h3 : (l.take i).any (same (rd_T26 l i)) with
        | true => rfl
        | false => rfl
theorem check (l : List S26) : waiting_Check.f l = some (err (chk l)) := check_loop l _ _ rfl
theorem at_loop (l : List S26) (hl : l.length ≤ 1000) (s a b : Int) : ∀ (n i k : Nat), n + i = l.length → n + 1 ≤ k → sizarref26_index.l0 k l s (i : Int) a b = some (idxFrom (isOffer s a b) (l.drop i) i)
  | 0, i, k + 1, h, hk => by
    unfold sizarref26_index.l0
    rw [if_neg (by omega), List.drop_eq_nil_of_le (by omega)]
    rfl
  | n + 1, i, k + 1, h, hk => by
    have hi : i < l.length := by omega
    have ih := at_loop l hl s a b n (i + 1) k (by omega) (by omega)
    unfold sizarref26_index.l0
    rw [if_pos (by omega), if_pos (by omega), idxFrom_step _ _ _ hi, w64 _ (by omega), ih]
    by_cases h0 : (rd_T26 l (i : Int)).f0 = s
    · rw [if_pos h0]
      simp only [isOffer, h0, beq_self_eq_true, Bool.true_and]
      split <;> rfl
    · rw [if_neg h0]
      simp [isOffer, h0]
theorem at_ (l : List S26) (hl : l.length ≤ 1000) (s a b : Int) (k : Nat) (hk : l.length + 1 ≤ k) : sizarref26_index.f k l s a b = some (idxFrom (isOffer s a b) l 0) := by
  have := at_loop l hl s a b l.length 0 k (by omega) hk
  simpa [sizarref26_index.f] using this
theorem rcheck_loop (l : List S26) (hl : l.length ≤ 1000) : ∀ (n i k : Nat), n + i = l.length → n + l.length + 2 ≤ k → sizarref26_Check.l0 k l (i : Int) = some (err (chkB l n i))
  | 0, i, k + 1, h, hk => by
    unfold sizarref26_Check.l0
    rw [if_neg (by omega)]
    rfl
  | n + 1, i, k + 1, h, hk => by
    have hi : i < l.length := by omega
    have ih := rcheck_loop l hl n (i + 1) k (by omega) (by omega)
    have hat := any_take l[i] i hi (same_self _)
    have tail : (if idxFrom (isOffer l[i].f0 l[i].f1.f0 l[i].f1.f1) l 0 = (i : Int) then some (err (chkB l n (i + 1))) else some 260) = some (err (!(l.take i).any (same l[i]) && chkB l n (i + 1))) := by
      cases h3 : (l.take i).any (same l[i]) with
      | true => rw [if_neg (fun h => by rw [hat.1 h] at h3; cases h3)]; rfl
      | false => rw [if_pos (hat.2 h3)]; rfl
    unfold sizarref26_Check.l0
    rw [if_pos (by omega), if_pos (by omega), rd_at hi, valid, Option.bind_some, chkB, good, rd_at hi]
    cases h1 : ok l[i] with
    | false => rfl
    | true =>
      rw [if_pos rfl]
      cases i with
      | zero =>
        rw [if_neg (by omega), at_ l hl _ _ _ _ (by omega), Option.bind_some, w64 _ (by omega), ih]
        simpa using tail
      | succ j =>
        have hw : wrap64 (((j + 1 : Nat) : Int) - 1) = ((j : Nat) : Int) := by unfold wrap64; omega
        rw [if_pos (by omega), hw, if_pos (by omega), if_pos (by omega), rd_at (show j < l.length by omega), precedes_, Option.bind_some, w64 _ (by omega), ih, Nat.add_sub_cancel, rd_at (show j < l.length by omega)]
        cases h2 : lt l[j] l[j + 1] with
        | false => rfl
        | true =>
          rw [if_pos rfl, at_ l hl _ _ _ _ (by omega), Option.bind_some]
          simpa using tail
theorem rcheck (l : List S26) (hl : l.length ≤ 1000) (k : Nat) (hk : 2 * l.length + 2 ≤ k) : sizarref26_Check.f k l = some (err (chk l)) := by
  have := rcheck_loop l hl l.length 0 k (by omega) (by omega)
  simpa [sizarref26_Check.f, chk] using this

theorem half (i j : Nat) (h : i + j < 100000) : wrap64 ((IntKind.u64.wrap (wrap64 ((i : Int) + j))) / 2) = (((i + j) / 2 : Nat) : Int) := by
  simp only [IntKind.wrap, wrap64]
  simp [IntKind.bits, IntKind.signed]
  omega
theorem bs_loop (l : List S26) (hl : l.length ≤ 1000) (hp : l.Pairwise (fun a b => lt a b = true)) (o : S26) : ∀ (n i j k : Nat), i ≤ pos l o → pos l o ≤ j → j ≤ l.length → j - i ≤ n → n + 1 ≤ k →
    ∃ q, api_Wait_30.l0 k l (l.length : Int) (i : Int) (j : Int) o.f0 o.f1.f0 o.f1.f1 o.f2 o.f3 = some ((pos l o : Int), q)
  | n, i, j, k + 1, h1, h2, h3, h4, hk => by
    unfold api_Wait_30.l0
    by_cases hij : i < j
    · have hm : (i + j) / 2 < l.length := by omega
      obtain ⟨n', rfl⟩ : ∃ n', n = n' + 1 := ⟨n - 1, by omega⟩
      obtain ⟨t, ht, ht1, ht2⟩ := compare_ l[(i + j) / 2] o
      rw [if_pos (by omega), half i j (by omega), if_pos (by omega), if_pos (by omega), rd_at hm, ht, Option.bind_some, w64 _ (by omega)]
      have hq := pos_lt o l hp _ hm
      by_cases hlt : lt l[(i + j) / 2] o = true
      · rw [if_pos (ht1.2 hlt)]
        rw [hlt] at hq
        have := of_decide_eq_true hq.symm
        exact bs_loop l hl hp o n' _ _ _ (by omega) h2 h3 (by omega) (by omega)
      · rw [if_neg (mt ht1.1 hlt)]
        rw [Bool.not_eq_true] at hlt
        rw [hlt] at hq
        have := of_decide_eq_false hq.symm
        exact bs_loop l hl hp o n' _ _ _ h1 (by omega) (by omega) (by omega) (by omega)
    · obtain rfl : i = pos l o := by omega
      rw [if_neg (by omega)]
      by_cases hpl : pos l o < l.length
      · obtain ⟨t, ht, ht1, ht2⟩ := compare_ l[pos l o] o
        rw [if_pos (by omega), if_pos (by omega), if_pos (by omega), rd_at hpl, ht, Option.bind_some]
        exact ⟨_, rfl⟩
      · rw [if_neg (by omega)]
        exact ⟨_, rfl⟩
theorem bs (l : List S26) (hl : l.length ≤ 1000) (hp : l.Pairwise (fun a b => lt a b = true)) (o : S26) (k : Nat) (hk : l.length + 1 ≤ k) : ∃ q, api_Wait_30.f k l o.f0 o.f1.f0 o.f1.f1 o.f2 o.f3 () = some ((pos l o : Int), q) := by
  have := bs_loop l hl hp o l.length 0 l.length k (Nat.zero_le _) (pos_le o l) (Nat.le_refl _) (by omega) hk
  simpa [api_Wait_30.f] using this

def jn (l : List S26) (o : S26) : List S26 × Int := if chk l = true ∧ ok o = true ∧ met l o = false then (ins l o, 0) else ([], 260)
theorem join (l : List S26) (hl : l.length ≤ 1000) (o : S26) (k : Nat) (hk : l.length + 2 ≤ k) : waiting_Join.f k l o.f0 o.f1.f0 o.f1.f1 o.f2 o.f3 = some (jn l o) := by
  obtain ⟨k, rfl⟩ : ∃ k', k = k' + 1 := ⟨k - 1, by omega⟩
  unfold waiting_Join.f
  rw [check l, Option.bind_some, fits, Option.bind_some]
  simp only [waiting_Join.j0, jn]
  cases hc : chk l with
  | false => simp [err]
  | true =>
    have hV := (chk_V.1 hc)
    cases ho : ok o with
    | false => simp [err]
    | true =>
      obtain ⟨q, hq⟩ := bs l hl hV.2.1 o k (by omega)
      rw [hq]
      simp only [err, waiting_find.f, Option.bind_some]
      rcases idx_or (isOffer o.f0 o.f1.f0 o.f1.f1) l 0 with ⟨h1, h2⟩ | ⟨j, hj, h1, h2, h3⟩
      · have h2' : met l o = false := h2
        have hpl := pos_le o l
        rw [h1, h2']
        simp only [api_Wait_33.f, api_Wait_32.f]
        rw [if_pos (show l.length * 40 ≤ 140737488355328 by omega)]
        simp only [Option.bind_some]
        rw [if_pos (show (l.length + 1) * 40 ≤ 140737488355328 ∧ (0 : Int) ≤ (pos l o : Int) ∧ (pos l o : Int) ≤ (l.length : Int) ∧ ([(⟨o.f0, ⟨o.f1.f0, o.f1.f1⟩, o.f2, o.f3⟩ : S26)] : List S26).length = 1 from ⟨by omega, by omega, by omega, rfl⟩)]
        simp [← ins_eq]
      · have h3' : met l o = true := h3
        rw [h1, h3']
        simp
theorem rjoin_loop (l : List S26) (hl : l.length ≤ 1000) (o : S26) : ∀ (n i k : Nat), n + i = l.length → n + 1 ≤ k → sizarref26_Join.l0 k l (i : Int) o.f0 o.f1.f0 o.f1.f1 o.f2 o.f3 = some (l.take (i + pos (l.drop i) o) ++ o :: l.drop (i + pos (l.drop i) o), 0)
  | 0, i, k + 1, h, hk => by
    unfold sizarref26_Join.l0
    obtain rfl : i = l.length := by omega
    rw [if_neg (by omega)]
    simp only [Option.bind_some, List.length_nil, List.length_append, List.length_cons, List.length_take, List.length_drop, Int.toNat_natCast, List.nil_append]
    rw [if_pos (by omega), if_pos (by omega), if_pos (by omega), if_pos (by omega), if_pos (by omega)]
    simp [pos]
  | n + 1, i, k + 1, h, hk => by
    have hi : i < l.length := by omega
    have ih := rjoin_loop l hl o n (i + 1) k (by omega) (by omega)
    unfold sizarref26_Join.l0
    rw [if_pos (by omega), if_pos (by omega), rd_at hi, precedes_, Option.bind_some, w64 _ (by omega), ih, List.drop_eq_getElem_cons hi]
    by_cases hlt : lt l[i] o = true
    · rw [if_pos hlt]
      simp only [pos, hlt, if_true]
      rw [show i + (pos (l.drop (i + 1)) o + 1) = i + 1 + pos (l.drop (i + 1)) o by omega]
    · rw [if_neg hlt]
      simp only [pos, hlt, Option.bind_some, List.length_nil, List.length_append, List.length_cons, List.length_take, List.length_drop, Int.toNat_natCast, List.nil_append]
      rw [if_pos (by omega), if_pos (by omega), if_pos (by omega), if_pos (by omega)]
      simp
theorem rjoin (l : List S26) (hl : l.length ≤ 1000) (o : S26) (k : Nat) (hk : 2 * l.length + 4 ≤ k) : sizarref26_Join.f k l o.f0 o.f1.f0 o.f1.f1 o.f2 o.f3 = some (jn l o) := by
  obtain ⟨k, rfl⟩ : ∃ k', k = k' + 1 := ⟨k - 1, by omega⟩
  have hm := rjoin_loop l hl o l.length 0 k (by omega) (by omega)
  simp only [Nat.zero_add, List.drop_zero, ins_eq] at hm
  unfold sizarref26_Join.f
  rw [rcheck l hl _ (by omega), Option.bind_some, valid, Option.bind_some, at_ l hl _ _ _ _ (by omega), Option.bind_some]
  simp only [sizarref26_Join.j0, jn]
  rw [show ((0 : Nat) : Int) = 0 from rfl] at hm
  rw [hm]
  cases hc : chk l with
  | false => simp [err]
  | true =>
    cases ho : ok o with
    | false => simp [err]
    | true =>
      show (if err true = 0 then _ else _) = _
      rcases idx_or (isOffer o.f0 o.f1.f0 o.f1.f1) l 0 with ⟨h1, h2⟩ | ⟨j, hj, h1, h2, h3⟩
      · have h2' : met l o = false := h2
        rw [h1, h2']
        simp [err]
      · have h3' : met l o = true := h3
        rw [h1, h3']
        simp [err]

def lv (l : List S26) (s a b : Int) : List S26 × Int :=
  if chk l = true then (if idxFrom (isOffer s a b) l 0 < 0 then ([], 260) else (del l (idxFrom (isOffer s a b) l 0).toNat, 0)) else ([], 260)
theorem leave (l : List S26) (hl : l.length ≤ 1000) (s a b : Int) : waiting_Leave.f l s a b = some (lv l s a b) := by
  unfold waiting_Leave.f lv
  rw [check l, Option.bind_some]
  cases hc : chk l with
  | false => simp [err]
  | true =>
    rw [if_pos rfl, if_pos (show err true = 0 from rfl)]
    simp only [waiting_find.f, Option.bind_some]
    rcases idx_or (isOffer s a b) l 0 with ⟨h1, h2⟩ | ⟨j, hj, h1, h2, h3⟩
    · rw [h1]
      simp
    · rw [h1, Nat.zero_add]
      simp only [if_neg (show ¬((j : Nat) : Int) < 0 by omega), api_Wait_33.f, api_Wait_34.f]
      rw [if_pos (by omega), Option.bind_some, if_pos ⟨by omega, by omega, by unfold wrap64; omega⟩, Option.bind_some]
      rfl
theorem rleave (l : List S26) (hl : l.length ≤ 1000) (s a b : Int) (k : Nat) (hk : 2 * l.length + 4 ≤ k) : sizarref26_Leave.f k l s a b = some (lv l s a b) := by
  unfold sizarref26_Leave.f lv
  rw [rcheck l hl _ (by omega), at_ l hl _ _ _ _ (by omega), Option.bind_some, Option.bind_some]
  cases hc : chk l with
  | false => simp [err]
  | true =>
    rw [if_pos rfl, if_pos (show err true = 0 from rfl)]
    rcases idx_or (isOffer s a b) l 0 with ⟨h1, h2⟩ | ⟨j, hj, h1, h2, h3⟩
    · rw [h1]
      simp
    · rw [h1, Nat.zero_add, w64 _ (by omega)]
      simp only [if_neg (show ¬((j : Nat) : Int) < 0 by omega), if_pos (show (0 : Int) ≤ (j : Int) by omega), if_pos (show (j : Int) < (l.length : Int) by omega)]
      simp only [Option.bind_some, List.length_nil, List.length_append, List.length_cons, List.length_take, List.length_drop, Int.toNat_natCast, List.nil_append]
      rw [if_pos (by omega), if_pos (by omega), if_pos (by omega), if_pos (by omega), if_pos (by omega)]
      rfl

def out5 (p : S26 × Bool) : Int × Int × Int × Int × Int × Bool := (p.1.f0, p.1.f1.f0, p.1.f1.f1, p.1.f2, p.1.f3, p.2)
theorem first_loop (l : List S26) (hl : l.length ≤ 1000) (a b : Int) : ∀ (n i k : Nat) (w : S26) (q : Bool), n + i = l.length → n + 1 ≤ k → waiting_First.l0 k q l (l.length : Int) (i : Int) a b w.f0 w.f1.f0 w.f1.f1 w.f2 w.f3 = some (out5 (fl a b w q (l.drop i)))
  | 0, i, k + 1, w, q, h, hk => by
    unfold waiting_First.l0
    rw [if_neg (by omega), List.drop_eq_nil_of_le (by omega)]
    rfl
  | n + 1, i, k + 1, w, q, h, hk => by
    have hi : i < l.length := by omega
    unfold waiting_First.l0
    obtain ⟨t, ht, ht1, ht2⟩ := compare_ l[i] w
    rw [if_pos (by omega), if_pos (by omega), if_pos (by omega), rd_at hi, w64 _ (by omega), List.drop_eq_getElem_cons hi, ht, Option.bind_some, fl, first_loop l hl a b n (i + 1) k l[i] true (by omega) (by omega), first_loop l hl a b n (i + 1) k w q (by omega) (by omega)]
    show (if bd a b l[i] = true then _ else _) = _
    by_cases hb : bd a b l[i] = true
    · rw [if_pos hb]
      cases q with
      | false => rw [if_neg (by simp), if_pos ⟨hb, .inl rfl⟩]
      | true =>
        rw [if_pos rfl]
        by_cases hlt : lt l[i] w = true
        · rw [if_pos (ht1.2 hlt), if_pos ⟨hb, .inr hlt⟩]
        · rw [if_neg (mt ht1.1 hlt), if_neg (by rintro ⟨_, h | h⟩; cases h; exact hlt h)]
    · rw [if_neg hb, if_neg (fun h => hb h.1)]
theorem first (l : List S26) (hl : l.length ≤ 1000) (a b : Int) (k : Nat) (hk : l.length + 1 ≤ k) : waiting_First.f k l a b = some (out5 (fl a b z26 false l)) := by
  have := first_loop l hl a b l.length 0 k z26 false (by omega) hk
  rw [List.drop_zero] at this
  exact this
theorem same_loop (l m : List S26) (hl : l.length ≤ 1000) (he : l.length = m.length) : ∀ (n i k : Nat), n + i = l.length → n + 1 ≤ k → sizarref26_Same.l0 k l m (i : Int) = some (decide (l.drop i = m.drop i))
  | 0, i, k + 1, h, hk => by
    unfold sizarref26_Same.l0
    rw [if_neg (by omega), List.drop_eq_nil_of_le (by omega), List.drop_eq_nil_of_le (by omega)]
    simp
  | n + 1, i, k + 1, h, hk => by
    have hi : i < l.length := by omega
    have hi' : i < m.length := by omega
    have ih := same_loop l m hl he n (i + 1) k (by omega) (by omega)
    unfold sizarref26_Same.l0
    rw [if_pos (by omega), if_pos (by omega), if_pos (by omega), rd_at hi, rd_at hi', w64 _ (by omega), ih, List.drop_eq_getElem_cons hi, List.drop_eq_getElem_cons hi']
    generalize l[i] = x
    generalize m[i] = y
    obtain ⟨x0, ⟨x1, x2⟩, x3, x4⟩ := x
    obtain ⟨y0, ⟨y1, y2⟩, y3, y4⟩ := y
    by_cases h0 : x0 = y0 <;> by_cases h1 : x1 = y1 <;> by_cases h2 : x2 = y2 <;> by_cases h3 : x3 = y3 <;> by_cases h4 : x4 = y4 <;> simp [h0, h1, h2, h3, h4]
theorem same_ (l m : List S26) (hl : l.length ≤ 1000) (k : Nat) (hk : l.length + 1 ≤ k) : sizarref26_Same.f k l m = some (decide (l = m)) := by
  unfold sizarref26_Same.f
  by_cases he : l.length = m.length
  · rw [if_pos (by omega)]
    have := same_loop l m hl he l.length 0 k (by omega) hk
    simpa using this
  · rw [if_neg (by omega)]
    simp
    intro h
    exact he (by rw [h])
theorem few (l : List S26) : sizarref26_Few.f l = some (decide (l.length ≤ 40)) := by
  unfold sizarref26_Few.f
  congr 1
  rw [decide_eq_decide]
  omega
theorem sane : sizarlaw26_sane.f 300 = some true := by decide +kernel
end Z
end Go.Proofs.Ytjffojmpfdoodaa.X
-- The laws of the package waiting, in plain lists.
namespace Go.Proofs.Ytjffojmpfdoodaa.X
open Go.RowKit Go.Proofs.YtjffojmpfdoodaaW.PrintWords
set_option linter.unusedVariables false
set_option linter.unusedSimpArgs false
namespace Z
theorem jn_len (l : List S26) (o : S26) : (jn l o).1.length ≤ l.length + 1 := by
  unfold jn
  split
  · rw [ins_len]; omega
  · simp
theorem lv_len (l : List S26) (s a b : Int) : (lv l s a b).1.length ≤ l.length := by
  unfold lv
  split
  · split
    · simp
    · simp only [del, List.length_append, List.length_take, List.length_drop]
      omega
  · simp
end Z
open Z
theorem Pu.WaitingJoinSpec (l0 : List S26) (y : S26) (a2 : Int) (w2 : (Lit.int .i64 a2).wf = true) (z : S24) : ∃ k, sizarlaw26_WaitingJoinSpec.f k l0 y.f0 y.f1.f0 y.f1.f1 y.f2 y.f3 a2 z.f0 z.f1 = some true := by
  refine ⟨300, ?_⟩
  unfold sizarlaw26_WaitingJoinSpec.f
  rw [sane, Option.bind_some, if_pos rfl, few, Option.bind_some]
  by_cases h : l0.length ≤ 40
  · have := jn_len l0 y
    have := lv_len l0 a2 z.f0 z.f1
    rw [if_pos (by simpa using h), join l0 (by omega) y _ (by omega), rjoin l0 (by omega) y _ (by omega), leave l0 (by omega), rleave l0 (by omega) _ _ _ _ (by omega), Option.bind_some, Option.bind_some, Option.bind_some, Option.bind_some, same_ _ _ (by omega) _ (by omega), Option.bind_some, if_pos (by simp), if_pos rfl, same_ _ _ (by omega) _ (by omega), Option.bind_some, if_pos (by simp), if_pos rfl, check, rcheck _ (by omega) _ (by omega)]
    simp
  · rw [if_neg (by simpa using h)]
end Go.Proofs.Ytjffojmpfdoodaa.X
-- The row of the law WaitingJoinSpec, out of its pure proof and its walk (written by wip/mkrow.py).
namespace Go.Proofs.Ytjffojmpfdoodaa.waitingJoinSpec
open Go.ChangeShapes Go.WideShapes Go.ChangeAt Go.RowKit Go.Proofs.YtjffojmpfdoodaaW.PrintWords Go.Proofs.YtjffojmpfdoodaaW.Opn Go.Proofs.Ytjffojmpfdoodaa.X
open Go.ChangeMaps (open_string shut_string)
set_option linter.unusedVariables false
theorem own : ownKnob Try.prog.godebug = none := by kernel_rfl
theorem laidOut : laidOutB Try.prog = true := by kernel_rfl
set_option maxRecDepth 100000 in
theorem lifted (os : Os) (started : os.Started) (H : Type) (enc : TypeId × Value → H) :
    ReturnsInHanded {} Try.checked os 5 .any (Rows.waitingJoinSpecSpec.pre6 enc Try.prog Try.f5 Rows.waitingJoinSpecRow.domain false) (Rows.waitingJoinSpecSpec.post enc Try.prog Try.f5 false true false false) := by
  refine returnsInHanded_of_change_sized (C := Try.checked) own started (by kernel_rfl) Try.func5
    (ChangeSpec.witness6 (enc := enc) (C := Try.checked) false ⟨#[], #[.slice none 0 0, .agg #[.int .i64 0,.int .i64 0,.int .i64 0,.int .i64 0,.int .i64 0], .int .i64 0, .agg #[.int .i64 0,.int .i64 0]], []⟩ 8 (by kernel_rfl) (by kernel_rfl) (by kernel_rfl) (by kernel_rfl)) ?_
  intro W base args ds gs before hval0 hW hcnd hsz0 _
  have hval : ∀ (j : Nat) t v, Try.f5.params[j]? = some t → args[j]? = some v → Value.okWide Try.prog W .any base t v := hval0
  have hW' := hW
  obtain ⟨p, q, hA0, hV, rfl, hfz, hnd⟩ := hW
  have hA : DataW.TrodAll enc Try.prog W 0 (fun _ => true) true Try.f5.params.toList args.toList ds p := hA0
  rw [Try.params5] at hA hval
  obtain ⟨v0, vs0, d0, ds0, p0, q0, hargs, rfl, rfl, h0, r0⟩ := trodAll_cons hA
  obtain ⟨v1, vs1, d1, ds1, p1, q1, rfl, rfl, rfl, h1, r1⟩ := trodAll_cons r0
  obtain ⟨v2, vs2, d2, ds2, p2, q2, rfl, rfl, rfl, h2, r2⟩ := trodAll_cons r1
  obtain ⟨v3, vs3, d3, ds3, p3, q3, rfl, rfl, rfl, h3, r3⟩ := trodAll_cons r2
  obtain ⟨rfl, rfl, rfl⟩ := trodAll_nil r3
  obtain rfl : args = #[v0, v1, v2, v3] := by cases args; simp_all
  obtain ⟨rfl, rfl⟩ := trodVars_none hV
  have k0 := h0
  have lt0 : ∀ x ∈ p0, x.block < W.heap.size := by obtain ⟨m, hm⟩ := k0; exact DataW.trod_lt m _ _ _ hm
  obtain ⟨A0, c0, l0, rfl, hc0, hr0, ho0⟩ := Opens.arg_slice op26 Try.underlying22 (hval 0 22 v0 rfl rfl) h0
  have k1 := h1
  have lt1 : ∀ x ∈ p1, x.block < W.heap.size := by obtain ⟨m, hm⟩ := k1; exact DataW.trod_lt m _ _ _ hm
  obtain ⟨y1, cs1, rfl, hk1, ho1⟩ := Opens.arg_struct op26 Try.underlying26 (hval 1 26 v1 rfl rfl) h1
  obtain rfl := k26_open hk1
  have k2 := h2
  have lt2 : ∀ x ∈ p2, x.block < W.heap.size := by obtain ⟨m, hm⟩ := k2; exact DataW.trod_lt m _ _ _ hm
  obtain ⟨a2, rfl, rfl, rfl, w2⟩ := open_int Try.underlying3 (hval 2 3 v2 rfl rfl) h2
  have k3 := h3
  have lt3 : ∀ x ∈ p3, x.block < W.heap.size := by obtain ⟨m, hm⟩ := k3; exact DataW.trod_lt m _ _ _ hm
  obtain ⟨y3, cs3, rfl, hk3, ho3⟩ := Opens.arg_struct op24 Try.underlying24 (hval 3 24 v3 rfl rfl) h3
  obtain rfl := k24_open hk3
  clear hA0 hval0 hsz0
  obtain ⟨k, hk_⟩ := Pu.WaitingJoinSpec l0 y1 a2 w2 y3
  refine (sizarlaw26_WaitingJoinSpec.calls k A0 c0 l0 y1.f0 y1.f1.f0 y1.f1.f1 y1.f2 y1.f3 a2 y3.f0 y3.f1 true W hr0 hc0 hk_).mono fun e W' ⟨he, bel0⟩ => ?_
  have bel : Below W.heap.size W W' := bel0
  subst he
  exact ⟨_, rfl, _, _, _, [], _, [], hW', trodAll_mk1 (shut_bool Try.underlying4 _), (trodAll_cons_mk (Below.trod laidOut (by kernel_rfl) (of_decide_eq_true (by kernel_rfl)) k0 bel lt0) (trodAll_cons_mk (Below.trod laidOut (by kernel_rfl) (of_decide_eq_true (by kernel_rfl)) k1 bel lt1) (trodAll_cons_mk (Below.trod laidOut (by kernel_rfl) (of_decide_eq_true (by kernel_rfl)) k2 bel lt2) (trodAll_cons_mk (Below.trod laidOut (by kernel_rfl) (of_decide_eq_true (by kernel_rfl)) k3 bel lt3) trodAll_mk0)))), rfl, bel.frame _, fun h => by cases h⟩
theorem over : Rows.waitingJoinSpecRow.holds Try.pinned (OpenSpec.ofChange Rows.waitingJoinSpecSpec) :=
  OpenClaim.holds_of_wide 5 Try.f5 rfl rfl rfl rfl rfl rfl rfl ⟨rfl, rfl, rfl, rfl, rfl⟩ rfl rfl rfl rfl rfl (by kernel_rfl) Try.func5 (by kernel_rfl)
    (of_decide_eq_true (by kernel_rfl)) (by unfold Func.isWrapper; first | (rw [if_pos (by decide +kernel)]; kernel_rfl) | (rw [if_neg (by decide +kernel)]; exact ⟨rfl, rfl⟩))
    (fun os started H enc _ => lifted os started H enc)
end Go.Proofs.Ytjffojmpfdoodaa.waitingJoinSpec
namespace Go.Proofs.Ytjffojmpfdoodaa
/-- The row, under a short name, for the claim. -/
theorem waitingJoinSpec_holds : Rows.WaitingJoinSpecSaid := waitingJoinSpec.over
#print axioms waitingJoinSpec_holds
end Go.Proofs.Ytjffojmpfdoodaa
