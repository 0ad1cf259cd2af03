/- The law OffersMakeSpec is proved, whatever its input: no condition. -/
import Derived.Test.Ytnegohkckgfbiaaqb4
import Derived.Test.Ytnegohkckgfbiaaqrx27
import Derived.Test.Ytnegohkckgfbiaaqrx29
import Derived.Test.Ytnegohkckgfbiaaqrx30
import Derived.Test.Ytnegohkckgfbiaaqrx31
import Derived.Test.Ytnegohkckgfbiaaqrx32
import Derived.ChangeOld
import Derived.OpenShut
import Derived.ProofKit
import Derived.ShutString
import Derived.SizedLaws
import Derived.Test.YtnegohkckgfbiaaRows
-- What the functions of the package offers and of its reference compute, in plain lists.
namespace Go.Proofs.Ytnegohkckgfbiaa.X
open Go.RowKit Go.Proofs.YtnegohkckgfbiaaW.PrintWords
set_option linter.unusedVariables false
set_option linter.unusedSimpArgs false
deriving instance DecidableEq for S24
deriving instance DecidableEq for S26
namespace Z
def ok (o : S26) : Bool := decide (0 ≤ o.f0 ∧ o.f0 < 20000 ∧ 0 ≤ o.f1.f0 ∧ o.f1.f0 < 4000 ∧ -1 ≤ o.f1.f1 ∧ o.f1.f1 < 4000 ∧ o.f1.f1 ≠ o.f1.f0 ∧ 1 ≤ o.f2 ∧ o.f2 ≤ 1048592)
def lt (a b : S26) : Bool := decide (a.f0 < b.f0 ∨ a.f0 = b.f0 ∧ (a.f1.f0 < b.f1.f0 ∨ a.f1.f0 = b.f1.f0 ∧ a.f1.f1 < b.f1.f1))
def key (a b : S26) : Bool := isOffer b.f0 b.f1.f0 b.f1.f1 a
theorem key_iff {a b : S26} : key a b = true ↔ a.f0 = b.f0 ∧ a.f1.f0 = b.f1.f0 ∧ a.f1.f1 = b.f1.f1 := by simp [key, isOffer]
theorem lt_trans {a b c : S26} (h : lt a b = true) (h' : lt b c = true) : lt a c = true := by
  simp only [lt, decide_eq_true_eq] at *
  omega
theorem lt_key {a b : S26} (h : lt a b = true) : key a b = false := by
  simp only [lt, decide_eq_true_eq] at h
  rw [Bool.eq_false_iff]
  intro hk
  rw [key_iff] at hk
  omega
theorem lt_key' {a b : S26} (h : lt a b = true) : key b a = false := by
  simp only [lt, decide_eq_true_eq] at h
  rw [Bool.eq_false_iff]
  intro hk
  rw [key_iff] at hk
  omega
theorem lt_tri (a b : S26) : lt a b = true ∨ key a b = true ∨ lt b a = true := by
  simp only [lt, decide_eq_true_eq, key_iff]
  omega
theorem w64 (i : Nat) (h : i < 1000000) : wrap64 ((i : Int) + 1) = ((i + 1 : Nat) : Int) := by unfold wrap64; omega
theorem rd_at {l : List S26} {i : Nat} (h : i < l.length) : rd_T26 l (i : Int) = l[i] := by simp [rd_T26, List.getD_eq_getElem?_getD, List.getElem?_eq_getElem h]

theorem fits (o : S26) : offers_fits.f o.f0 o.f1.f0 o.f1.f1 o.f2 = some (ok o) := by
  unfold offers_fits.f offers_within.f ok
  repeat' (first | split | (simp only [Option.bind_some]))
  all_goals (apply congrArg some; (try simp only [decide_eq_true_eq] at *); first | exact (decide_eq_false (by omega)).symm | exact decide_eq_decide.2 (by omega) | simp_all)
theorem valid (o : S26) : sizarref31_Valid.f o.f0 o.f1.f0 o.f1.f1 o.f2 = some (ok o) := by
  unfold sizarref31_Valid.f ok
  repeat' split
  all_goals (simp_all <;> omega)
theorem before (a b : S26) : sizarref31_Before.f a.f0 a.f1.f0 a.f1.f1 a.f2 b.f0 b.f1.f0 b.f1.f1 b.f2 = some (lt a b) := by
  unfold sizarref31_Before.f lt
  repeat' split
  all_goals (simp_all <;> omega)
theorem cmp_ (a b : Int) : cmp_Compare_int.f a b = some (if a < b then -1 else if a > b then 1 else 0) := by
  unfold cmp_Compare_int.f cmp_isNaN_int.f
  simp
  repeat' split
  all_goals rfl
theorem or3 (k : Nat) (a b c : Int) : cmp_Or_int.f (k + 4) [a, b, c] = some (if a = 0 then if b = 0 then c else b else a) := by
  simp only [cmp_Or_int.f, cmp_Or_int.l0, rd, List.length_cons, List.length_nil]
  by_cases ha : a = 0 <;> by_cases hb : b = 0 <;> by_cases hc : c = 0 <;> simp [ha, hb, hc, wrap64, rd]
theorem compare_ (k : Nat) (a b : S26) : ∃ t, offers_compare.f (k + 4) a.f0 a.f1.f0 a.f1.f1 a.f2 b.f0 b.f1.f0 b.f1.f1 b.f2 = some t ∧ (t < 0 ↔ lt a b = true) ∧ (t = 0 ↔ key a b = true) := by
  unfold offers_compare.f
  simp only [cmp_, or3, Option.bind_some]
  refine ⟨_, rfl, ?_, ?_⟩
  · simp only [lt, decide_eq_true_eq]
    repeat' split
    all_goals omega
  · simp only [key_iff]
    repeat' split
    all_goals omega

/-! the lists -/
def chk : Option S26 → List S26 → Bool
  | _, [] => true
  | p, x :: r => ok x && (match p with | none => true | some q => lt q x) && chk (some x) r
theorem chk_iff : ∀ (l : List S26) (p : Option S26), chk p l = true ↔ (∀ x ∈ l, ok x = true) ∧ (∀ q, p = some q → ∀ x ∈ l, lt q x = true) ∧ l.Pairwise (fun a b => lt a b = true)
  | [], p => by simp [chk]
  | x :: r, p => by
    simp only [chk, Bool.and_eq_true, chk_iff r, List.pairwise_cons, List.mem_cons, forall_eq_or_imp]
    cases p with
    | none =>
      simp
      constructor
      · rintro ⟨h1, h2, h3, h4⟩
        exact ⟨⟨h1, h2⟩, h3, h4⟩
      · rintro ⟨⟨h1, h2⟩, h3, h4⟩
        exact ⟨h1, h2, h3, h4⟩
    | some q =>
      simp
      constructor
      · rintro ⟨⟨h1, h0⟩, h2, h3, h4⟩
        exact ⟨⟨h1, h2⟩, ⟨h0, fun x hx => lt_trans h0 (h3 x hx)⟩, h3, h4⟩
      · rintro ⟨⟨h1, h2⟩, ⟨h0, _⟩, h3, h4⟩
        exact ⟨⟨h1, h0⟩, h2, h3, h4⟩
def V (l : List S26) : Prop := (∀ x ∈ l, ok x = true) ∧ l.Pairwise (fun a b => lt a b = true)
def prev (l : List S26) : Nat → Option S26
  | 0 => none
  | i + 1 => l[i]?
def err (b : Bool) : Int := if b then 0 else 310
theorem chk_V {l : List S26} : chk none l = true ↔ V l := by rw [chk_iff]; simp [V]

theorem chk_cons (p : Option S26) (x : S26) (r : List S26) : chk p (x :: r) = (ok x && (match p with | none => true | some q => lt q x) && chk (some x) r) := by cases p <;> rfl
theorem check_loop (l : List S26) (hl : l.length ≤ 1000) : ∀ (n i k : Nat), n + i = l.length → n + 6 ≤ k → offers_Check.l0 k l l (l.length : Int) (i : Int) = some (err (chk (prev l i) (l.drop i)))
  | 0, i, k + 1, h, hk => by
    unfold offers_Check.l0
    rw [if_neg (by omega), List.drop_eq_nil_of_le (by omega)]
    rfl
  | n + 1, i, k + 1, h, hk => by
    have hi : i < l.length := by omega
    have ih := check_loop l hl n (i + 1) k (by omega) (by omega)
    unfold offers_Check.l0
    rw [if_pos (by omega), if_pos (by omega), if_pos (by omega), rd_at hi, fits, Option.bind_some, List.drop_eq_getElem_cons hi, chk_cons]
    by_cases ho : ok l[i] = true
    · rw [if_pos ho, ho]
      cases i with
      | zero =>
        rw [if_neg (by omega), w64 _ (by omega), ih]
        simp [prev, List.getElem?_eq_getElem hi]
      | succ j =>
        have hw : wrap64 (((j + 1 : Nat) : Int) - 1) = ((j : Nat) : Int) := by unfold wrap64; omega
        rw [if_pos (by omega), hw, if_pos (by omega), if_pos (by omega), rd_at (show j < l.length by omega)]
        obtain ⟨k', rfl⟩ : ∃ k', k = k' + 4 := ⟨k - 4, by omega⟩
        obtain ⟨t, ht, h1, h2⟩ := compare_ k' l[j] l[j + 1]
        rw [ht, Option.bind_some, w64 _ (by omega), ih]
        have hp : prev l (j + 1) = some l[j] := by simp [prev]
        have hp' : prev l (j + 1 + 1) = some l[j + 1] := by simp [prev]
        rw [hp, hp']
        by_cases hlt : lt l[j] l[j + 1] = true
        · rw [if_neg (by have := h1.2 hlt; omega)]
          simp [hlt]
        · rw [if_pos (by have := mt h1.1 hlt; omega)]
          simp [hlt, err]
    · rw [if_neg ho]
      simp [ho, err]
theorem check (l : List S26) (hl : l.length ≤ 1000) (k : Nat) (hk : l.length + 6 ≤ k) : offers_Check.f k l = some (err (chk none l)) := by
  have := check_loop l hl l.length 0 k (by omega) hk
  simpa [offers_Check.f, prev] using this

theorem rcheck_loop (l : List S26) (hl : l.length ≤ 1000) : ∀ (n i k : Nat), n + i = l.length → n + 1 ≤ k → sizarref31_Check.l0 k l (i : Int) = some (err (chk (prev l i) (l.drop i)))
  | 0, i, k + 1, h, hk => by
    unfold sizarref31_Check.l0
    rw [if_neg (by omega), List.drop_eq_nil_of_le (by omega)]
    rfl
  | n + 1, i, k + 1, h, hk => by
    have hi : i < l.length := by omega
    have ih := rcheck_loop l hl n (i + 1) k (by omega) (by omega)
    unfold sizarref31_Check.l0
    rw [if_pos (by omega), if_pos (by omega), rd_at hi, valid, Option.bind_some, List.drop_eq_getElem_cons hi, chk_cons]
    by_cases ho : ok l[i] = true
    · rw [if_pos ho, ho]
      cases i with
      | zero =>
        rw [if_neg (by omega), w64 _ (by omega), ih]
        simp [prev, List.getElem?_eq_getElem hi]
      | succ j =>
        have hw : wrap64 (((j + 1 : Nat) : Int) - 1) = ((j : Nat) : Int) := by unfold wrap64; omega
        rw [if_pos (by omega), hw, if_pos (by omega), if_pos (by omega), rd_at (show j < l.length by omega), before, Option.bind_some, w64 _ (by omega), ih]
        have hp : prev l (j + 1) = some l[j] := by simp [prev]
        have hp' : prev l (j + 1 + 1) = some l[j + 1] := by simp [prev]
        rw [hp, hp']
        by_cases hlt : lt l[j] l[j + 1] = true
        · rw [if_pos hlt]
          simp [hlt]
        · rw [if_neg hlt]
          simp [hlt, err]
    · rw [if_neg ho]
      simp [ho, err]
theorem rcheck (l : List S26) (hl : l.length ≤ 1000) (k : Nat) (hk : l.length + 1 ≤ k) : sizarref31_Check.f k l = some (err (chk none l)) := by
  have := rcheck_loop l hl l.length 0 k (by omega) hk
  simpa [sizarref31_Check.f, prev] using this

theorem at_loop (l : List S26) (hl : l.length ≤ 1000) (s a b : Int) : ∀ (n i k : Nat), n + i = l.length → n + 1 ≤ k → sizarref31_at.l0 k l s (i : Int) a b = some (idxFrom (isOffer s a b) (l.drop i) i)
  | 0, i, k + 1, h, hk => by
    unfold sizarref31_at.l0
    rw [if_neg (by omega), List.drop_eq_nil_of_le (by omega)]
    rfl
  | n + 1, i, k + 1, h, hk => by
    have hi : i < l.length := by omega
    have ih := at_loop l hl s a b n (i + 1) k (by omega) (by omega)
    unfold sizarref31_at.l0
    rw [if_pos (by omega), if_pos (by omega), idxFrom_step _ _ _ hi, w64 _ (by omega), ih]
    by_cases h0 : (rd_T26 l (i : Int)).f0 = s
    · rw [if_pos h0]
      simp only [isOffer, h0, beq_self_eq_true, Bool.true_and]
      split <;> rfl
    · rw [if_neg h0]
      simp [isOffer, h0]
theorem at_ (l : List S26) (hl : l.length ≤ 1000) (s a b : Int) (k : Nat) (hk : l.length + 1 ≤ k) : sizarref31_at.f k l s a b = some (idxFrom (isOffer s a b) l 0) := by
  have := at_loop l hl s a b l.length 0 k (by omega) hk
  simpa [sizarref31_at.f] using this

theorem same_loop (l m : List S26) (hl : l.length ≤ 1000) (he : l.length = m.length) : ∀ (n i k : Nat), n + i = l.length → n + 1 ≤ k → sizarref31_Same.l0 k l m (i : Int) = some (decide (l.drop i = m.drop i))
  | 0, i, k + 1, h, hk => by
    unfold sizarref31_Same.l0
    rw [if_neg (by omega), List.drop_eq_nil_of_le (by omega), List.drop_eq_nil_of_le (by omega)]
    simp
  | n + 1, i, k + 1, h, hk => by
    have hi : i < l.length := by omega
    have hi' : i < m.length := by omega
    have ih := same_loop l m hl he n (i + 1) k (by omega) (by omega)
    unfold sizarref31_Same.l0
    rw [if_pos (by omega), if_pos (by omega), if_pos (by omega), rd_at hi, rd_at hi', w64 _ (by omega), ih, List.drop_eq_getElem_cons hi, List.drop_eq_getElem_cons hi']
    generalize l[i] = x
    generalize m[i] = y
    obtain ⟨x0, ⟨x1, x2⟩, x3⟩ := x
    obtain ⟨y0, ⟨y1, y2⟩, y3⟩ := y
    by_cases h0 : x0 = y0 <;> by_cases h1 : x1 = y1 <;> by_cases h2 : x2 = y2 <;> by_cases h3 : x3 = y3 <;> simp [h0, h1, h2, h3]
theorem same (l m : List S26) (hl : l.length ≤ 1000) (k : Nat) (hk : l.length + 1 ≤ k) : sizarref31_Same.f k l m = some (decide (l = m)) := by
  unfold sizarref31_Same.f
  by_cases he : l.length = m.length
  · rw [if_pos (by omega)]
    have := same_loop l m hl he l.length 0 k (by omega) hk
    simpa using this
  · rw [if_neg (by omega)]
    simp
    intro h
    exact he (by rw [h])
end Z
end Go.Proofs.Ytnegohkckgfbiaa.X
-- Make, Expire, Take, Held: both sides compute the same plain functions of lists.
namespace Go.Proofs.Ytnegohkckgfbiaa.X
open Go.RowKit Go.Proofs.YtnegohkckgfbiaaW.PrintWords
set_option linter.unusedVariables false
set_option linter.unusedSimpArgs false
namespace Z
def pos : List S26 → S26 → Nat
  | [], _ => 0
  | x :: r, o => if lt x o then pos r o + 1 else 0
def ins : List S26 → S26 → List S26
  | [], o => [o]
  | x :: r, o => if lt x o then x :: ins r o else o :: x :: r
theorem pos_le (o : S26) : ∀ l, pos l o ≤ l.length
  | [] => Nat.le_refl _
  | x :: r => by
    have := pos_le o r
    simp only [pos, List.length_cons]
    split <;> omega
theorem ins_eq (o : S26) : ∀ l, l.take (pos l o) ++ o :: l.drop (pos l o) = ins l o
  | [] => rfl
  | x :: r => by
    simp only [pos, ins]
    split
    · simp [ins_eq o r]
    · simp
theorem pos_lt (o : S26) : ∀ (l : List S26), l.Pairwise (fun a b => lt a b = true) → ∀ m (h : m < l.length), lt l[m] o = decide (m < pos l o)
  | x :: r, hp, 0, h => by
    simp only [pos, List.getElem_cons_zero]
    split <;> simp_all
  | x :: r, hp, m + 1, h => by
    rw [List.pairwise_cons] at hp
    simp only [List.getElem_cons_succ, pos]
    have ih := pos_lt o r hp.2 m (by simpa using h)
    split
    · rw [ih]
      simp
    · rename_i hx
      simp only [Nat.not_lt_zero, decide_false]
      rw [Bool.eq_false_iff]
      intro hm
      exact hx (lt_trans (hp.1 _ (List.getElem_mem _)) hm)
theorem any_pos (o : S26) : ∀ (l : List S26), l.Pairwise (fun a b => lt a b = true) → l.any (fun x => key x o) = if h : pos l o < l.length then key l[pos l o] o else false
  | [], _ => rfl
  | x :: r, hp => by
    rw [List.pairwise_cons] at hp
    have ih := any_pos o r hp.2
    rw [List.any_cons]
    by_cases hx : lt x o = true
    · have hp' : pos (x :: r) o = pos r o + 1 := by simp [pos, hx]
      rw [lt_key hx, Bool.false_or, ih]
      simp [hp']
    · have hp' : pos (x :: r) o = 0 := by simp [pos, hx]
      simp only [hp']
      rw [dif_pos (by simp)]
      simp only [List.getElem_cons_zero]
      cases hk : key x o with
      | true => rfl
      | false =>
        have hox : lt o x = true := by
          rcases lt_tri x o with h | h | h
          · exact absurd h hx
          · rw [hk] at h; cases h
          · exact h
        simp only [Bool.false_or, List.any_eq_false]
        intro y hy
        rw [lt_key' (lt_trans hox (hp.1 y hy))]
        simp

theorem half (i j : Nat) (h : i + j < 100000) : wrap64 ((IntKind.u64.wrap (wrap64 ((i : Int) + j))) / 2) = (((i + j) / 2 : Nat) : Int) := by
  simp only [IntKind.wrap, wrap64]
  simp [IntKind.bits, IntKind.signed]
  omega
theorem bs_loop (l : List S26) (hl : l.length ≤ 1000) (hp : l.Pairwise (fun a b => lt a b = true)) (o : S26) : ∀ (n i j k : Nat), i ≤ pos l o → pos l o ≤ j → j ≤ l.length → j - i ≤ n → n + 6 ≤ k →
    api_Offer_24.l0 k l (l.length : Int) (i : Int) (j : Int) o.f0 o.f1.f0 o.f1.f1 o.f2 = some ((pos l o : Int), l.any (fun x => key x o))
  | n, i, j, k + 1, h1, h2, h3, h4, hk => by
    unfold api_Offer_24.l0
    obtain ⟨k', rfl⟩ : ∃ k', k = k' + 4 := ⟨k - 4, by omega⟩
    by_cases hij : i < j
    · have hm : (i + j) / 2 < l.length := by omega
      obtain ⟨n', rfl⟩ : ∃ n', n = n' + 1 := ⟨n - 1, by omega⟩
      obtain ⟨t, ht, ht1, ht2⟩ := compare_ k' l[(i + j) / 2] o
      rw [if_pos (by omega), half i j (by omega), if_pos (by omega), if_pos (by omega), rd_at hm, ht, Option.bind_some, w64 _ (by omega)]
      have hq := pos_lt o l hp _ hm
      by_cases hlt : lt l[(i + j) / 2] o = true
      · rw [if_pos (ht1.2 hlt)]
        rw [hlt] at hq
        have := of_decide_eq_true hq.symm
        exact bs_loop l hl hp o n' _ _ _ (by omega) h2 h3 (by omega) (by omega)
      · rw [if_neg (mt ht1.1 hlt)]
        rw [Bool.not_eq_true] at hlt
        rw [hlt] at hq
        have := of_decide_eq_false hq.symm
        exact bs_loop l hl hp o n' _ _ _ h1 (by omega) (by omega) (by omega) (by omega)
    · obtain rfl : i = pos l o := by omega
      rw [if_neg (by omega), any_pos o l hp]
      by_cases hpl : pos l o < l.length
      · obtain ⟨t, ht, ht1, ht2⟩ := compare_ k' l[pos l o] o
        rw [if_pos (by omega), if_pos (by omega), if_pos (by omega), rd_at hpl, ht, Option.bind_some, dif_pos hpl]
        congr 2
        rw [Bool.eq_iff_iff]
        simpa using ht2
      · rw [if_neg (by omega), dif_neg hpl]
theorem bs (l : List S26) (hl : l.length ≤ 1000) (hp : l.Pairwise (fun a b => lt a b = true)) (o : S26) (k : Nat) (hk : l.length + 6 ≤ k) : api_Offer_24.f k l o.f0 o.f1.f0 o.f1.f1 o.f2 () = some ((pos l o : Int), l.any (fun x => key x o)) := by
  have := bs_loop l hl hp o l.length 0 l.length k (Nat.zero_le _) (pos_le o l) (Nat.le_refl _) (by omega) hk
  simpa [api_Offer_24.f] using this

def mk (l : List S26) (o : S26) : List S26 × Int := if chk none l = true ∧ ok o = true ∧ l.any (fun x => key x o) = false then (ins l o, 0) else ([], 310)
theorem make (l : List S26) (hl : l.length ≤ 1000) (o : S26) (k : Nat) (hk : l.length + 8 ≤ k) : offers_Make.f k l o.f0 o.f1.f0 o.f1.f1 o.f2 = some (mk l o) := by
  obtain ⟨k, rfl⟩ : ∃ k', k = k' + 1 := ⟨k - 1, by omega⟩
  unfold offers_Make.f
  rw [check l hl _ (by omega), Option.bind_some, fits, Option.bind_some]
  simp only [offers_Make.j0, mk]
  cases hc : chk none l with
  | false => simp [err]
  | true =>
    have hV := (chk_V.1 hc)
    cases ho : ok o with
    | false => simp [err]
    | true =>
      rw [bs l hl hV.2 o k (by omega)]
      cases ha : l.any (fun x => key x o) with
      | true => simp [err]
      | false =>
        have hpl := pos_le o l
        simp only [err, api_Offer_27.f, api_Offer_26.f, Option.bind_some]
        rw [if_pos (show l.length * 32 ≤ 140737488355328 by omega)]
        simp only [Option.bind_some]
        rw [if_pos (show (l.length + 1) * 32 ≤ 140737488355328 ∧ (0 : Int) ≤ (pos l o : Int) ∧ (pos l o : Int) ≤ (l.length : Int) ∧ ([(⟨o.f0, ⟨o.f1.f0, o.f1.f1⟩, o.f2⟩ : S26)] : List S26).length = 1 from ⟨by omega, by omega, by omega, rfl⟩)]
        simp [← ins_eq]

theorem idx_or (p : S26 → Bool) : ∀ (l : List S26) (i : Nat), (idxFrom p l i = -1 ∧ l.any p = false) ∨ (∃ j : Nat, ∃ h : j < l.length, idxFrom p l i = ((i + j : Nat) : Int) ∧ p l[j] = true ∧ l.any p = true)
  | [], i => .inl ⟨rfl, rfl⟩
  | x :: r, i => by
    simp only [idxFrom, List.any_cons]
    by_cases hx : p x = true
    · exact .inr ⟨0, by simp, by simp [hx], by simpa using hx, by simp [hx]⟩
    · rw [if_neg hx]
      rw [Bool.not_eq_true] at hx
      rcases idx_or p r (i + 1) with ⟨h1, h2⟩ | ⟨j, h, h1, h2, h3⟩
      · exact .inl ⟨h1, by simp only [hx, h2, Bool.or_self]⟩
      · exact .inr ⟨j + 1, by simpa using h, by rw [h1]; congr 1; omega, by simpa using h2, by rw [h3, Bool.or_true]⟩

theorem rmake_loop (l : List S26) (hl : l.length ≤ 1000) (o : S26) : ∀ (n i k : Nat), n + i = l.length → n + 1 ≤ k → sizarref31_Make.l0 k l (i : Int) o.f0 o.f1.f0 o.f1.f1 o.f2 = some (l.take (i + pos (l.drop i) o) ++ o :: l.drop (i + pos (l.drop i) o), 0)
  | 0, i, k + 1, h, hk => by
    unfold sizarref31_Make.l0
    obtain rfl : i = l.length := by omega
    rw [if_neg (by omega)]
    simp only [Option.bind_some, List.length_nil, List.length_append, List.length_cons, List.length_take, List.length_drop, Int.toNat_natCast, List.nil_append]
    rw [if_pos (by omega), if_pos (by omega), if_pos (by omega), if_pos (by omega), if_pos (by omega)]
    simp [pos]
  | n + 1, i, k + 1, h, hk => by
    have hi : i < l.length := by omega
    have ih := rmake_loop l hl o n (i + 1) k (by omega) (by omega)
    unfold sizarref31_Make.l0
    rw [if_pos (by omega), if_pos (by omega), rd_at hi, before, Option.bind_some, w64 _ (by omega), ih, List.drop_eq_getElem_cons hi]
    by_cases hlt : lt l[i] o = true
    · rw [if_pos hlt]
      simp only [pos, hlt, if_true]
      rw [show i + (pos (l.drop (i + 1)) o + 1) = i + 1 + pos (l.drop (i + 1)) o by omega]
    · rw [if_neg hlt]
      simp only [pos, hlt, Option.bind_some, List.length_nil, List.length_append, List.length_cons, List.length_take, List.length_drop, Int.toNat_natCast, List.nil_append]
      rw [if_pos (by omega), if_pos (by omega), if_pos (by omega), if_pos (by omega)]
      simp
theorem rmake (l : List S26) (hl : l.length ≤ 1000) (o : S26) (k : Nat) (hk : l.length + 8 ≤ k) : sizarref31_Make.f k l o.f0 o.f1.f0 o.f1.f1 o.f2 = some (mk l o) := by
  obtain ⟨k, rfl⟩ : ∃ k', k = k' + 1 := ⟨k - 1, by omega⟩
  have hm := rmake_loop l hl o l.length 0 k (by omega) (by omega)
  simp only [Nat.zero_add, List.drop_zero, ins_eq] at hm
  unfold sizarref31_Make.f
  rw [rcheck l hl _ (by omega), Option.bind_some, valid, Option.bind_some, at_ l hl _ _ _ _ (by omega), Option.bind_some]
  simp only [sizarref31_Make.j0, mk]
  rw [show ((0 : Nat) : Int) = 0 from rfl] at hm
  rw [hm]
  cases hc : chk none l with
  | false => simp [err]
  | true =>
    cases ho : ok o with
    | false => simp [err]
    | true =>
      show (if err true = 0 then _ else _) = _
      rcases idx_or (isOffer o.f0 o.f1.f0 o.f1.f1) l 0 with ⟨h1, h2⟩ | ⟨j, hj, h1, h2, h3⟩
      · have h2' : l.any (fun x => key x o) = false := h2
        rw [h1, h2']
        simp [err]
      · have h3' : l.any (fun x => key x o) = true := h3
        rw [h1, h3']
        simp [err]

def tk (l : List S26) (s a b now : Int) : List S26 × Int :=
  if chk none l = true then
    (if idxFrom (isOffer s a b) l 0 < 0 then ([], 310) else if now ≥ (rd_T26 l (idxFrom (isOffer s a b) l 0)).f2 then ([], 310) else (l.take (idxFrom (isOffer s a b) l 0).toNat ++ l.drop ((idxFrom (isOffer s a b) l 0).toNat + 1), 0))
  else ([], 310)
theorem take (l : List S26) (hl : l.length ≤ 1000) (s a b now : Int) (k : Nat) (hk : l.length + 6 ≤ k) : offers_Take.f k l s a b now = some (tk l s a b now) := by
  unfold offers_Take.f tk
  rw [check l hl _ hk, Option.bind_some]
  cases hc : chk none l with
  | false => simp [err]
  | true =>
    rw [if_pos rfl, if_pos (show err true = 0 from rfl)]
    rcases idx_or (isOffer s a b) l 0 with ⟨h1, h2⟩ | ⟨j, hj, h1, h2, h3⟩
    · rw [h1]
      simp
    · rw [h1, Nat.zero_add]
      simp only [if_neg (show ¬((j : Nat) : Int) < 0 by omega)]
      split
      · rfl
      · simp only [api_Offer_27.f, api_Offer_34.f]
        rw [if_pos (by omega), Option.bind_some, if_pos ⟨by omega, by omega, trivial⟩, Option.bind_some]
theorem few (l : List S26) : sizarref31_Few.f l = some (decide (l.length ≤ 40)) := by
  unfold sizarref31_Few.f
  congr 1
  rw [decide_eq_decide]
  omega
end Z
end Go.Proofs.Ytnegohkckgfbiaa.X
-- The seven laws of the package offers, in plain lists.
namespace Go.Proofs.Ytnegohkckgfbiaa.X
open Go.RowKit Go.Proofs.YtnegohkckgfbiaaW.PrintWords
set_option linter.unusedVariables false
set_option linter.unusedSimpArgs false
namespace Z
theorem sane : sizarlaw31_sane.f 300 = some true := by decide +kernel
theorem ins_len (o : S26) : ∀ l, (ins l o).length = l.length + 1
  | [] => rfl
  | x :: r => by
    simp only [ins]
    split <;> simp [ins_len o r]
theorem mk_len (l : List S26) (o : S26) : (mk l o).1.length ≤ l.length + 1 := by
  unfold mk
  split
  · rw [ins_len]; omega
  · simp
end Z
open Z
theorem Pu.OffersMakeSpec (l0 : List S26) (y : S26) : ∃ k, sizarlaw31_OffersMakeSpec.f k l0 y.f0 y.f1.f0 y.f1.f1 y.f2 = some true := by
  refine ⟨300, ?_⟩
  unfold sizarlaw31_OffersMakeSpec.f
  rw [sane, Option.bind_some, if_pos rfl, few, Option.bind_some]
  by_cases h : l0.length ≤ 40
  · have := mk_len l0 y
    rw [if_pos (by simpa using h), make l0 (by omega) y _ (by omega), rmake l0 (by omega) y _ (by omega), Option.bind_some, Option.bind_some, check _ (by omega) _ (by omega), rcheck _ (by omega) _ (by omega), Option.bind_some, Option.bind_some, if_pos rfl, same _ _ (by omega) _ (by omega), Option.bind_some]
    simp
  · rw [if_neg (by simpa using h)]
end Go.Proofs.Ytnegohkckgfbiaa.X
-- The row of the law OffersMakeSpec, out of its pure proof and its walk (written by wip/mkrow.py).
namespace Go.Proofs.Ytnegohkckgfbiaa.offersMakeSpec
open Go.ChangeShapes Go.WideShapes Go.ChangeAt Go.RowKit Go.Proofs.YtnegohkckgfbiaaW.PrintWords Go.Proofs.YtnegohkckgfbiaaW.Opn Go.Proofs.Ytnegohkckgfbiaa.X
open Go.ChangeMaps (open_string shut_string)
set_option linter.unusedVariables false
theorem own : ownKnob Try.prog.godebug = none := by kernel_rfl
theorem laidOut : laidOutB Try.prog = true := by kernel_rfl
set_option maxRecDepth 100000 in
theorem lifted (os : Os) (started : os.Started) (H : Type) (enc : TypeId × Value → H) :
    ReturnsInHanded {} Try.checked os 3 .any (Rows.offersMakeSpecSpec.pre6 enc Try.prog Try.f3 Rows.offersMakeSpecRow.domain false) (Rows.offersMakeSpecSpec.post enc Try.prog Try.f3 false true false false) := by
  refine returnsInHanded_of_change_sized (C := Try.checked) own started (by kernel_rfl) Try.func3
    (ChangeSpec.witness6 (enc := enc) (C := Try.checked) false ⟨#[], #[.slice none 0 0, .agg #[.int .i64 0,.int .i64 0,.int .i64 0,.int .i64 0]], []⟩ 8 (by kernel_rfl) (by kernel_rfl) (by kernel_rfl) (by kernel_rfl)) ?_
  intro W base args ds gs before hval0 hW hcnd hsz0 _
  have hval : ∀ (j : Nat) t v, Try.f3.params[j]? = some t → args[j]? = some v → Value.okWide Try.prog W .any base t v := hval0
  have hW' := hW
  obtain ⟨p, q, hA0, hV, rfl, hfz, hnd⟩ := hW
  have hA : DataW.TrodAll enc Try.prog W 0 (fun _ => true) true Try.f3.params.toList args.toList ds p := hA0
  rw [Try.params3] at hA hval
  obtain ⟨v0, vs0, d0, ds0, p0, q0, hargs, rfl, rfl, h0, r0⟩ := trodAll_cons hA
  obtain ⟨v1, vs1, d1, ds1, p1, q1, rfl, rfl, rfl, h1, r1⟩ := trodAll_cons r0
  obtain ⟨rfl, rfl, rfl⟩ := trodAll_nil r1
  obtain rfl : args = #[v0, v1] := by cases args; simp_all
  obtain ⟨rfl, rfl⟩ := trodVars_none hV
  have k0 := h0
  have lt0 : ∀ x ∈ p0, x.block < W.heap.size := by obtain ⟨m, hm⟩ := k0; exact DataW.trod_lt m _ _ _ hm
  obtain ⟨A0, c0, l0, rfl, hc0, hr0, ho0⟩ := Opens.arg_slice op26 Try.underlying22 (hval 0 22 v0 rfl rfl) h0
  have k1 := h1
  have lt1 : ∀ x ∈ p1, x.block < W.heap.size := by obtain ⟨m, hm⟩ := k1; exact DataW.trod_lt m _ _ _ hm
  obtain ⟨y1, cs1, rfl, hk1, ho1⟩ := Opens.arg_struct op26 Try.underlying26 (hval 1 26 v1 rfl rfl) h1
  obtain rfl := k26_open hk1
  clear hA0 hval0 hsz0
  obtain ⟨k, hk_⟩ := Pu.OffersMakeSpec l0 y1
  refine (sizarlaw31_OffersMakeSpec.calls k A0 c0 l0 y1.f0 y1.f1.f0 y1.f1.f1 y1.f2 true W hr0 hc0 hk_).mono fun e W' ⟨he, bel0⟩ => ?_
  have bel : Below W.heap.size W W' := bel0
  subst he
  exact ⟨_, rfl, _, _, _, [], _, [], hW', trodAll_mk1 (shut_bool Try.underlying4 _), (trodAll_cons_mk (Below.trod laidOut (by kernel_rfl) (of_decide_eq_true (by kernel_rfl)) k0 bel lt0) (trodAll_cons_mk (Below.trod laidOut (by kernel_rfl) (of_decide_eq_true (by kernel_rfl)) k1 bel lt1) trodAll_mk0)), rfl, bel.frame _, fun h => by cases h⟩
theorem over : Rows.offersMakeSpecRow.holds Try.pinned (OpenSpec.ofChange Rows.offersMakeSpecSpec) :=
  OpenClaim.holds_of_wide 3 Try.f3 rfl rfl rfl rfl rfl rfl rfl ⟨rfl, rfl, rfl, rfl, rfl⟩ rfl rfl rfl rfl rfl (by kernel_rfl) Try.func3 (by kernel_rfl)
    (of_decide_eq_true (by kernel_rfl)) (by unfold Func.isWrapper; first | (rw [if_pos (by decide +kernel)]; kernel_rfl) | (rw [if_neg (by decide +kernel)]; exact ⟨rfl, rfl⟩))
    (fun os started H enc _ => lifted os started H enc)
end Go.Proofs.Ytnegohkckgfbiaa.offersMakeSpec
namespace Go.Proofs.Ytnegohkckgfbiaa
/-- The row, under a short name, for the claim. -/
theorem offersMakeSpec_holds : Rows.OffersMakeSpecSaid := offersMakeSpec.over
#print axioms offersMakeSpec_holds
end Go.Proofs.Ytnegohkckgfbiaa
