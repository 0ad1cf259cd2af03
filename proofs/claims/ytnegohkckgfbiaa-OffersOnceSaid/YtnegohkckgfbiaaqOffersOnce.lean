/- The law OffersOnce is proved, whatever its input: no condition. -/
import Derived.Test.Ytnegohkckgfbiaaqb4
import Derived.Test.Ytnegohkckgfbiaaqrx38
import Derived.ChangeOld
import Derived.OpenShut
import Derived.ProofKit
import Derived.ShutString
import Derived.SizedLaws
import Derived.Test.YtnegohkckgfbiaaRows
-- What the functions of the package offers and of its reference compute, in plain lists.
namespace Go.Proofs.Ytnegohkckgfbiaa.X
open Go.RowKit Go.Proofs.YtnegohkckgfbiaaW.PrintWords
set_option linter.unusedVariables false
set_option linter.unusedSimpArgs false
deriving instance DecidableEq for S24
deriving instance DecidableEq for S26
namespace Z
def ok (o : S26) : Bool := decide (0 ≤ o.f0 ∧ o.f0 < 20000 ∧ 0 ≤ o.f1.f0 ∧ o.f1.f0 < 4000 ∧ -1 ≤ o.f1.f1 ∧ o.f1.f1 < 4000 ∧ o.f1.f1 ≠ o.f1.f0 ∧ 1 ≤ o.f2 ∧ o.f2 ≤ 1048592)
def lt (a b : S26) : Bool := decide (a.f0 < b.f0 ∨ a.f0 = b.f0 ∧ (a.f1.f0 < b.f1.f0 ∨ a.f1.f0 = b.f1.f0 ∧ a.f1.f1 < b.f1.f1))
def key (a b : S26) : Bool := isOffer b.f0 b.f1.f0 b.f1.f1 a
theorem key_iff {a b : S26} : key a b = true ↔ a.f0 = b.f0 ∧ a.f1.f0 = b.f1.f0 ∧ a.f1.f1 = b.f1.f1 := by simp [key, isOffer]
theorem lt_trans {a b c : S26} (h : lt a b = true) (h' : lt b c = true) : lt a c = true := by
  simp only [lt, decide_eq_true_eq] at *
  omega
theorem lt_key {a b : S26} (h : lt a b = true) : key a b = false := by
  simp only [lt, decide_eq_true_eq] at h
  rw [Bool.eq_false_iff]
  intro hk
  rw [key_iff] at hk
  omega
theorem lt_key' {a b : S26} (h : lt a b = true) : key b a = false := by
  simp only [lt, decide_eq_true_eq] at h
  rw [Bool.eq_false_iff]
  intro hk
  rw [key_iff] at hk
  omega
theorem lt_tri (a b : S26) : lt a b = true ∨ key a b = true ∨ lt b a = true := by
  simp only [lt, decide_eq_true_eq, key_iff]
  omega
theorem w64 (i : Nat) (h : i < 1000000) : wrap64 ((i : Int) + 1) = ((i + 1 : Nat) : Int) := by unfold wrap64; omega
theorem rd_at {l : List S26} {i : Nat} (h : i < l.length) : rd_T26 l (i : Int) = l[i] := by simp [rd_T26, List.getD_eq_getElem?_getD, List.getElem?_eq_getElem h]

theorem fits (o : S26) : offers_fits.f o.f0 o.f1.f0 o.f1.f1 o.f2 = some (ok o) := by
  unfold offers_fits.f offers_within.f ok
  repeat' (first | split | (simp only [Option.bind_some]))
  all_goals (apply congrArg some; (try simp only [decide_eq_true_eq] at *); first | exact (decide_eq_false (by omega)).symm | exact decide_eq_decide.2 (by omega) | simp_all)
theorem before (a b : S26) : sizarref31_Before.f a.f0 a.f1.f0 a.f1.f1 a.f2 b.f0 b.f1.f0 b.f1.f1 b.f2 = some (lt a b) := by
  unfold sizarref31_Before.f lt
  repeat' split
  all_goals (simp_all <;> omega)
theorem cmp_ (a b : Int) : cmp_Compare_int.f a b = some (if a < b then -1 else if a > b then 1 else 0) := by
  unfold cmp_Compare_int.f cmp_isNaN_int.f
  simp
  repeat' split
  all_goals rfl
theorem or3 (k : Nat) (a b c : Int) : cmp_Or_int.f (k + 4) [a, b, c] = some (if a = 0 then if b = 0 then c else b else a) := by
  simp only [cmp_Or_int.f, cmp_Or_int.l0, rd, List.length_cons, List.length_nil]
  by_cases ha : a = 0 <;> by_cases hb : b = 0 <;> by_cases hc : c = 0 <;> simp [ha, hb, hc, wrap64, rd]
theorem compare_ (k : Nat) (a b : S26) : ∃ t, offers_compare.f (k + 4) a.f0 a.f1.f0 a.f1.f1 a.f2 b.f0 b.f1.f0 b.f1.f1 b.f2 = some t ∧ (t < 0 ↔ lt a b = true) ∧ (t = 0 ↔ key a b = true) := by
  unfold offers_compare.f
  simp only [cmp_, or3, Option.bind_some]
  refine ⟨_, rfl, ?_, ?_⟩
  · simp only [lt, decide_eq_true_eq]
    repeat' split
    all_goals omega
  · simp only [key_iff]
    repeat' split
    all_goals omega

/-! the lists -/
def chk : Option S26 → List S26 → Bool
  | _, [] => true
  | p, x :: r => ok x && (match p with | none => true | some q => lt q x) && chk (some x) r
theorem chk_iff : ∀ (l : List S26) (p : Option S26), chk p l = true ↔ (∀ x ∈ l, ok x = true) ∧ (∀ q, p = some q → ∀ x ∈ l, lt q x = true) ∧ l.Pairwise (fun a b => lt a b = true)
  | [], p => by simp [chk]
  | x :: r, p => by
    simp only [chk, Bool.and_eq_true, chk_iff r, List.pairwise_cons, List.mem_cons, forall_eq_or_imp]
    cases p with
    | none =>
      simp
      constructor
      · rintro ⟨h1, h2, h3, h4⟩
        exact ⟨⟨h1, h2⟩, h3, h4⟩
      · rintro ⟨⟨h1, h2⟩, h3, h4⟩
        exact ⟨h1, h2, h3, h4⟩
    | some q =>
      simp
      constructor
      · rintro ⟨⟨h1, h0⟩, h2, h3, h4⟩
        exact ⟨⟨h1, h2⟩, ⟨h0, fun x hx => lt_trans h0 (h3 x hx)⟩, h3, h4⟩
      · rintro ⟨⟨h1, h2⟩, ⟨h0, _⟩, h3, h4⟩
        exact ⟨⟨h1, h0⟩, h2, h3, h4⟩
def V (l : List S26) : Prop := (∀ x ∈ l, ok x = true) ∧ l.Pairwise (fun a b => lt a b = true)
def prev (l : List S26) : Nat → Option S26
  | 0 => none
  | i + 1 => l[i]?
def err (b : Bool) : Int := if b then 0 else 310
theorem chk_V {l : List S26} : chk none l = true ↔ V l := by rw [chk_iff]; simp [V]

theorem chk_cons (p : Option S26) (x : S26) (r : List S26) : chk p (x :: r) = (ok x && (match p with | none => true | some q => lt q x) && chk (some x) r) := by cases p <;> rfl
theorem check_loop (l : List S26) (hl : l.length ≤ 1000) : ∀ (n i k : Nat), n + i = l.length → n + 6 ≤ k → offers_Check.l0 k l l (l.length : Int) (i : Int) = some (err (chk (prev l i) (l.drop i)))
  | 0, i, k + 1, h, hk => by
    unfold offers_Check.l0
    rw [if_neg (by omega), List.drop_eq_nil_of_le (by omega)]
    rfl
  | n + 1, i, k + 1, h, hk => by
    have hi : i < l.length := by omega
    have ih := check_loop l hl n (i + 1) k (by omega) (by omega)
    unfold offers_Check.l0
    rw [if_pos (by omega), if_pos (by omega), if_pos (by omega), rd_at hi, fits, Option.bind_some, List.drop_eq_getElem_cons hi, chk_cons]
    by_cases ho : ok l[i] = true
    · rw [if_pos ho, ho]
      cases i with
      | zero =>
        rw [if_neg (by omega), w64 _ (by omega), ih]
        simp [prev, List.getElem?_eq_getElem hi]
      | succ j =>
        have hw : wrap64 (((j + 1 : Nat) : Int) - 1) = ((j : Nat) : Int) := by unfold wrap64; omega
        rw [if_pos (by omega), hw, if_pos (by omega), if_pos (by omega), rd_at (show j < l.length by omega)]
        obtain ⟨k', rfl⟩ : ∃ k', k = k' + 4 := ⟨k - 4, by omega⟩
        obtain ⟨t, ht, h1, h2⟩ := compare_ k' l[j] l[j + 1]
        rw [ht, Option.bind_some, w64 _ (by omega), ih]
        have hp : prev l (j + 1) = some l[j] := by simp [prev]
        have hp' : prev l (j + 1 + 1) = some l[j + 1] := by simp [prev]
        rw [hp, hp']
        by_cases hlt : lt l[j] l[j + 1] = true
        · rw [if_neg (by have := h1.2 hlt; omega)]
          simp [hlt]
        · rw [if_pos (by have := mt h1.1 hlt; omega)]
          simp [hlt, err]
    · rw [if_neg ho]
      simp [ho, err]
theorem check (l : List S26) (hl : l.length ≤ 1000) (k : Nat) (hk : l.length + 6 ≤ k) : offers_Check.f k l = some (err (chk none l)) := by
  have := check_loop l hl l.length 0 k (by omega) hk
  simpa [offers_Check.f, prev] using this

theorem same_loop (l m : List S26) (hl : l.length ≤ 1000) (he : l.length = m.length) : ∀ (n i k : Nat), n + i = l.length → n + 1 ≤ k → sizarref31_Same.l0 k l m (i : Int) = some (decide (l.drop i = m.drop i))
  | 0, i, k + 1, h, hk => by
    unfold sizarref31_Same.l0
    rw [if_neg (by omega), List.drop_eq_nil_of_le (by omega), List.drop_eq_nil_of_le (by omega)]
    simp
  | n + 1, i, k + 1, h, hk => by
    have hi : i < l.length := by omega
    have hi' : i < m.length := by omega
    have ih := same_loop l m hl he n (i + 1) k (by omega) (by omega)
    unfold sizarref31_Same.l0
    rw [if_pos (by omega), if_pos (by omega), if_pos (by omega), rd_at hi, rd_at hi', w64 _ (by omega), ih, List.drop_eq_getElem_cons hi, List.drop_eq_getElem_cons hi']
    generalize l[i] = x
    generalize m[i] = y
    obtain ⟨x0, ⟨x1, x2⟩, x3⟩ := x
    obtain ⟨y0, ⟨y1, y2⟩, y3⟩ := y
    by_cases h0 : x0 = y0 <;> by_cases h1 : x1 = y1 <;> by_cases h2 : x2 = y2 <;> by_cases h3 : x3 = y3 <;> simp [h0, h1, h2, h3]
theorem same (l m : List S26) (hl : l.length ≤ 1000) (k : Nat) (hk : l.length + 1 ≤ k) : sizarref31_Same.f k l m = some (decide (l = m)) := by
  unfold sizarref31_Same.f
  by_cases he : l.length = m.length
  · rw [if_pos (by omega)]
    have := same_loop l m hl he l.length 0 k (by omega) hk
    simpa using this
  · rw [if_neg (by omega)]
    simp
    intro h
    exact he (by rw [h])
end Z
end Go.Proofs.Ytnegohkckgfbiaa.X
-- Make, Expire, Take, Held: both sides compute the same plain functions of lists.
namespace Go.Proofs.Ytnegohkckgfbiaa.X
open Go.RowKit Go.Proofs.YtnegohkckgfbiaaW.PrintWords
set_option linter.unusedVariables false
set_option linter.unusedSimpArgs false
namespace Z
def pos : List S26 → S26 → Nat
  | [], _ => 0
  | x :: r, o => if lt x o then pos r o + 1 else 0
def ins : List S26 → S26 → List S26
  | [], o => [o]
  | x :: r, o => if lt x o then x :: ins r o else o :: x :: r
theorem pos_le (o : S26) : ∀ l, pos l o ≤ l.length
  | [] => Nat.le_refl _
  | x :: r => by
    have := pos_le o r
    simp only [pos, List.length_cons]
    split <;> omega
theorem ins_eq (o : S26) : ∀ l, l.take (pos l o) ++ o :: l.drop (pos l o) = ins l o
  | [] => rfl
  | x :: r => by
    simp only [pos, ins]
    split
    · simp [ins_eq o r]
    · simp
theorem pos_lt (o : S26) : ∀ (l : List S26), l.Pairwise (fun a b => lt a b = true) → ∀ m (h : m < l.length), lt l[m] o = decide (m < pos l o)
  | x :: r, hp, 0, h => by
    simp only [pos, List.getElem_cons_zero]
    split <;> simp_all
  | x :: r, hp, m + 1, h => by
    rw [List.pairwise_cons] at hp
    simp only [List.getElem_cons_succ, pos]
    have ih := pos_lt o r hp.2 m (by simpa using h)
    split
    · rw [ih]
      simp
    · rename_i hx
      simp only [Nat.not_lt_zero, decide_false]
      rw [Bool.eq_false_iff]
      intro hm
      exact hx (lt_trans (hp.1 _ (List.getElem_mem _)) hm)
theorem any_pos (o : S26) : ∀ (l : List S26), l.Pairwise (fun a b => lt a b = true) → l.any (fun x => key x o) = if h : pos l o < l.length then key l[pos l o] o else false
  | [], _ => rfl
  | x :: r, hp => by
    rw [List.pairwise_cons] at hp
    have ih := any_pos o r hp.2
    rw [List.any_cons]
    by_cases hx : lt x o = true
    · have hp' : pos (x :: r) o = pos r o + 1 := by simp [pos, hx]
      rw [lt_key hx, Bool.false_or, ih]
      simp [hp']
    · have hp' : pos (x :: r) o = 0 := by simp [pos, hx]
      simp only [hp']
      rw [dif_pos (by simp)]
      simp only [List.getElem_cons_zero]
      cases hk : key x o with
      | true => rfl
      | false =>
        have hox : lt o x = true := by
          rcases lt_tri x o with h | h | h
          · exact absurd h hx
          · rw [hk] at h; cases h
          · exact h
        simp only [Bool.false_or, List.any_eq_false]
        intro y hy
        rw [lt_key' (lt_trans hox (hp.1 y hy))]
        simp

theorem half (i j : Nat) (h : i + j < 100000) : wrap64 ((IntKind.u64.wrap (wrap64 ((i : Int) + j))) / 2) = (((i + j) / 2 : Nat) : Int) := by
  simp only [IntKind.wrap, wrap64]
  simp [IntKind.bits, IntKind.signed]
  omega
theorem bs_loop (l : List S26) (hl : l.length ≤ 1000) (hp : l.Pairwise (fun a b => lt a b = true)) (o : S26) : ∀ (n i j k : Nat), i ≤ pos l o → pos l o ≤ j → j ≤ l.length → j - i ≤ n → n + 6 ≤ k →
    api_Offer_24.l0 k l (l.length : Int) (i : Int) (j : Int) o.f0 o.f1.f0 o.f1.f1 o.f2 = some ((pos l o : Int), l.any (fun x => key x o))
  | n, i, j, k + 1, h1, h2, h3, h4, hk => by
    unfold api_Offer_24.l0
    obtain ⟨k', rfl⟩ : ∃ k', k = k' + 4 := ⟨k - 4, by omega⟩
    by_cases hij : i < j
    · have hm : (i + j) / 2 < l.length := by omega
      obtain ⟨n', rfl⟩ : ∃ n', n = n' + 1 := ⟨n - 1, by omega⟩
      obtain ⟨t, ht, ht1, ht2⟩ := compare_ k' l[(i + j) / 2] o
      rw [if_pos (by omega), half i j (by omega), if_pos (by omega), if_pos (by omega), rd_at hm, ht, Option.bind_some, w64 _ (by omega)]
      have hq := pos_lt o l hp _ hm
      by_cases hlt : lt l[(i + j) / 2] o = true
      · rw [if_pos (ht1.2 hlt)]
        rw [hlt] at hq
        have := of_decide_eq_true hq.symm
        exact bs_loop l hl hp o n' _ _ _ (by omega) h2 h3 (by omega) (by omega)
      · rw [if_neg (mt ht1.1 hlt)]
        rw [Bool.not_eq_true] at hlt
        rw [hlt] at hq
        have := of_decide_eq_false hq.symm
        exact bs_loop l hl hp o n' _ _ _ h1 (by omega) (by omega) (by omega) (by omega)
    · obtain rfl : i = pos l o := by omega
      rw [if_neg (by omega), any_pos o l hp]
      by_cases hpl : pos l o < l.length
      · obtain ⟨t, ht, ht1, ht2⟩ := compare_ k' l[pos l o] o
        rw [if_pos (by omega), if_pos (by omega), if_pos (by omega), rd_at hpl, ht, Option.bind_some, dif_pos hpl]
        congr 2
        rw [Bool.eq_iff_iff]
        simpa using ht2
      · rw [if_neg (by omega), dif_neg hpl]
theorem bs (l : List S26) (hl : l.length ≤ 1000) (hp : l.Pairwise (fun a b => lt a b = true)) (o : S26) (k : Nat) (hk : l.length + 6 ≤ k) : api_Offer_24.f k l o.f0 o.f1.f0 o.f1.f1 o.f2 () = some ((pos l o : Int), l.any (fun x => key x o)) := by
  have := bs_loop l hl hp o l.length 0 l.length k (Nat.zero_le _) (pos_le o l) (Nat.le_refl _) (by omega) hk
  simpa [api_Offer_24.f] using this

def mk (l : List S26) (o : S26) : List S26 × Int := if chk none l = true ∧ ok o = true ∧ l.any (fun x => key x o) = false then (ins l o, 0) else ([], 310)
theorem make (l : List S26) (hl : l.length ≤ 1000) (o : S26) (k : Nat) (hk : l.length + 8 ≤ k) : offers_Make.f k l o.f0 o.f1.f0 o.f1.f1 o.f2 = some (mk l o) := by
  obtain ⟨k, rfl⟩ : ∃ k', k = k' + 1 := ⟨k - 1, by omega⟩
  unfold offers_Make.f
  rw [check l hl _ (by omega), Option.bind_some, fits, Option.bind_some]
  simp only [offers_Make.j0, mk]
  cases hc : chk none l with
  | false => simp [err]
  | true =>
    have hV := (chk_V.1 hc)
    cases ho : ok o with
    | false => simp [err]
    | true =>
      rw [bs l hl hV.2 o k (by omega)]
      cases ha : l.any (fun x => key x o) with
      | true => simp [err]
      | false =>
        have hpl := pos_le o l
        simp only [err, api_Offer_27.f, api_Offer_26.f, Option.bind_some]
        rw [if_pos (show l.length * 32 ≤ 140737488355328 by omega)]
        simp only [Option.bind_some]
        rw [if_pos (show (l.length + 1) * 32 ≤ 140737488355328 ∧ (0 : Int) ≤ (pos l o : Int) ∧ (pos l o : Int) ≤ (l.length : Int) ∧ ([(⟨o.f0, ⟨o.f1.f0, o.f1.f1⟩, o.f2⟩ : S26)] : List S26).length = 1 from ⟨by omega, by omega, by omega, rfl⟩)]
        simp [← ins_eq]

theorem idx_or (p : S26 → Bool) : ∀ (l : List S26) (i : Nat), (idxFrom p l i = -1 ∧ l.any p = false) ∨ (∃ j : Nat, ∃ h : j < l.length, idxFrom p l i = ((i + j : Nat) : Int) ∧ p l[j] = true ∧ l.any p = true)
  | [], i => .inl ⟨rfl, rfl⟩
  | x :: r, i => by
    simp only [idxFrom, List.any_cons]
    by_cases hx : p x = true
    · exact .inr ⟨0, by simp, by simp [hx], by simpa using hx, by simp [hx]⟩
    · rw [if_neg hx]
      rw [Bool.not_eq_true] at hx
      rcases idx_or p r (i + 1) with ⟨h1, h2⟩ | ⟨j, h, h1, h2, h3⟩
      · exact .inl ⟨h1, by simp only [hx, h2, Bool.or_self]⟩
      · exact .inr ⟨j + 1, by simpa using h, by rw [h1]; congr 1; omega, by simpa using h2, by rw [h3, Bool.or_true]⟩

def tk (l : List S26) (s a b now : Int) : List S26 × Int :=
  if chk none l = true then
    (if idxFrom (isOffer s a b) l 0 < 0 then ([], 310) else if now ≥ (rd_T26 l (idxFrom (isOffer s a b) l 0)).f2 then ([], 310) else (l.take (idxFrom (isOffer s a b) l 0).toNat ++ l.drop ((idxFrom (isOffer s a b) l 0).toNat + 1), 0))
  else ([], 310)
theorem take (l : List S26) (hl : l.length ≤ 1000) (s a b now : Int) (k : Nat) (hk : l.length + 6 ≤ k) : offers_Take.f k l s a b now = some (tk l s a b now) := by
  unfold offers_Take.f tk
  rw [check l hl _ hk, Option.bind_some]
  cases hc : chk none l with
  | false => simp [err]
  | true =>
    rw [if_pos rfl, if_pos (show err true = 0 from rfl)]
    rcases idx_or (isOffer s a b) l 0 with ⟨h1, h2⟩ | ⟨j, hj, h1, h2, h3⟩
    · rw [h1]
      simp
    · rw [h1, Nat.zero_add]
      simp only [if_neg (show ¬((j : Nat) : Int) < 0 by omega)]
      split
      · rfl
      · simp only [api_Offer_27.f, api_Offer_34.f]
        rw [if_pos (by omega), Option.bind_some, if_pos ⟨by omega, by omega, trivial⟩, Option.bind_some]
theorem few (l : List S26) : sizarref31_Few.f l = some (decide (l.length ≤ 40)) := by
  unfold sizarref31_Few.f
  congr 1
  rw [decide_eq_decide]
  omega
end Z
end Go.Proofs.Ytnegohkckgfbiaa.X
-- The seven laws of the package offers, in plain lists.
namespace Go.Proofs.Ytnegohkckgfbiaa.X
open Go.RowKit Go.Proofs.YtnegohkckgfbiaaW.PrintWords
set_option linter.unusedVariables false
set_option linter.unusedSimpArgs false
namespace Z
theorem sane : sizarlaw31_sane.f 300 = some true := by decide +kernel
theorem ins_len (o : S26) : ∀ l, (ins l o).length = l.length + 1
  | [] => rfl
  | x :: r => by
    simp only [ins]
    split <;> simp [ins_len o r]
theorem ins_perm (o : S26) : ∀ l, (ins l o).Perm (o :: l)
  | [] => List.Perm.refl _
  | x :: r => by
    simp only [ins]
    split
    · exact ((ins_perm o r).cons x).trans (List.Perm.swap o x r)
    · exact List.Perm.refl _
theorem ins_V {l : List S26} {o : S26} (hV : V l) (ho : ok o = true) (hk : l.any (fun x => key x o) = false) : V (ins l o) := by
  refine ⟨fun x hx => ?_, ?_⟩
  · rcases List.mem_cons.1 ((ins_perm o l).mem_iff.1 hx) with rfl | h
    · exact ho
    · exact hV.1 x h
  · obtain ⟨h0, hp⟩ := hV
    clear h0
    induction l with
    | nil => simp [ins]
    | cons x r ih =>
      rw [List.pairwise_cons] at hp
      simp only [List.any_cons, Bool.or_eq_false_iff] at hk
      simp only [ins]
      split
      · rename_i hx
        rw [List.pairwise_cons]
        refine ⟨fun y hy => ?_, ih hk.2 hp.2⟩
        rcases List.mem_cons.1 ((ins_perm o r).mem_iff.1 hy) with rfl | h
        · exact hx
        · exact hp.1 y h
      · rename_i hx
        have hox : lt o x = true := by
          rcases lt_tri x o with h | h | h
          · exact absurd h hx
          · rw [hk.1] at h; cases h
          · exact h
        rw [List.pairwise_cons, List.pairwise_cons]
        refine ⟨fun y hy => ?_, hp⟩
        rcases List.mem_cons.1 hy with rfl | h
        · exact hox
        · exact lt_trans hox (hp.1 y h)
theorem mk_zero {l : List S26} {o : S26} (h : (mk l o).2 = 0) : V l ∧ ok o = true ∧ l.any (fun x => key x o) = false ∧ mk l o = (ins l o, 0) := by
  unfold mk at h ⊢
  split at h
  · rename_i hc
    exact ⟨chk_V.1 hc.1, hc.2.1, hc.2.2, if_pos hc⟩
  · cases h
theorem mk_no {l : List S26} {o : S26} (h : ¬ (mk l o).2 = 0) : mk l o = ([], 310) := by
  unfold mk at h ⊢
  split at h
  · exact absurd rfl h
  · rename_i hc
    exact if_neg hc
theorem idx_ins (o : S26) : ∀ (l : List S26) (i : Nat), l.any (fun x => key x o) = false → idxFrom (isOffer o.f0 o.f1.f0 o.f1.f1) (ins l o) i = ((i + pos l o : Nat) : Int)
  | [], i, _ => by simp [ins, idxFrom, isOffer, pos]
  | x :: r, i, hk => by
    simp only [List.any_cons, Bool.or_eq_false_iff] at hk
    have hx : isOffer o.f0 o.f1.f0 o.f1.f1 x = false := hk.1
    simp only [ins, pos]
    split
    · simp only [idxFrom, hx]
      rw [if_neg (by simp), idx_ins o r (i + 1) hk.2]
      congr 1
      omega
    · have ho : isOffer o.f0 o.f1.f0 o.f1.f1 o = true := by simp [isOffer]
      simp only [idxFrom, ho]
      simp
theorem tk_ins {l : List S26} {o : S26} (hV : V l) (ho : ok o = true) (hk : l.any (fun x => key x o) = false) (now : Int) : tk (ins l o) o.f0 o.f1.f0 o.f1.f1 now = if now ≥ o.f2 then ([], 310) else (l, 0) := by
  unfold tk
  rw [if_pos (chk_V.2 (ins_V hV ho hk)), idx_ins o l 0 hk, Nat.zero_add]
  have hpl := pos_le o l
  have hlt : pos l o < (ins l o).length := by rw [ins_len]; omega
  have h1 : rd_T26 (ins l o) (pos l o : Int) = o := by
    rw [rd_at hlt]
    simp [← ins_eq, List.getElem_append, Nat.min_eq_left hpl]
  have h2 : (ins l o).take (pos l o) ++ (ins l o).drop (pos l o + 1) = l := by
    have e : ((l.take (pos l o)) ++ o :: l.drop (pos l o)) = (l.take (pos l o)) ++ ([o] ++ l.drop (pos l o)) := rfl
    have hl : (l.take (pos l o)).length = pos l o := by simp [Nat.min_eq_left hpl]
    conv => lhs; rw [← ins_eq o l]
    rw [List.take_append_of_le_length (by omega), List.take_of_length_le (by omega), e, ← List.append_assoc, List.drop_append_of_le_length (by simp; omega), List.drop_of_length_le (by simp; omega), List.nil_append, List.take_append_drop]
  rw [h1, if_neg (by omega), Int.toNat_natCast, h2]
theorem tk_no {l : List S26} {o : S26} (hk : l.any (fun x => key x o) = false) (now : Int) : tk l o.f0 o.f1.f0 o.f1.f1 now = ([], 310) := by
  unfold tk
  rcases idx_or (isOffer o.f0 o.f1.f0 o.f1.f1) l 0 with ⟨h1, h2⟩ | ⟨j, hj, h1, h2, h3⟩
  · rw [h1]
    simp
  · have : l.any (fun x => key x o) = true := h3
    rw [hk] at this
    cases this
theorem mk_ins {l : List S26} {o : S26} : mk (ins l o) o = ([], 310) := by
  unfold mk
  rw [if_neg]
  rintro ⟨_, _, h⟩
  rw [List.any_eq_false] at h
  exact h o ((ins_perm o l).mem_iff.2 List.mem_cons_self) (by simp [key, isOffer])

end Z
open Z
theorem Pu.OffersOnce (l0 : List S26) (o : S26) (now : Int) (w2 : (Lit.int .i64 now).wf = true) : ∃ k, sizarlaw31_OffersOnce.f k l0 o.f0 o.f1.f0 o.f1.f1 o.f2 now = some true := by
  refine ⟨300, ?_⟩
  unfold sizarlaw31_OffersOnce.f
  rw [sane, Option.bind_some, if_pos rfl, few, Option.bind_some]
  by_cases h : l0.length ≤ 40
  · rw [if_pos (by simpa using h), make l0 (by omega) o _ (by omega), Option.bind_some]
    by_cases hz : (mk l0 o).2 = 0
    · obtain ⟨hV, ho, hk, he⟩ := mk_zero hz
      have hlen := ins_len o l0
      have hw : wrap64 ((l0.length : Int) + 1) = ((ins l0 o).length : Int) := by unfold wrap64; omega
      rw [if_pos hz, he]
      simp only []
      rw [take _ (by omega) _ _ _ _ _ (by omega), Option.bind_some, check _ (by omega) _ (by omega), chk_V.2 (ins_V hV ho hk), Option.bind_some, if_pos (show err true = 0 from rfl), hw, if_pos rfl, tk_ins hV ho hk]
      have t : tk (ins l0 o) o.f0 o.f1.f0 o.f1.f1 o.f2 = ([], 310) := by rw [tk_ins hV ho hk, if_pos (Int.le_refl _)]
      by_cases hn : now ≥ o.f2
      · rw [if_pos hn]
        have e : ((310 : Int) == 0) = decide (now < o.f2) := by simp; omega
        simp only [sizarlaw31_OffersOnce.j0, e, bne_self_eq_false]
        rw [if_neg (by simp), if_neg (by simp), take _ (by omega) _ _ _ _ _ (by omega), make _ (by omega) o _ (by omega), Option.bind_some, Option.bind_some, t, mk_ins]
        rfl
      · rw [if_neg hn]
        have e : ((0 : Int) == 0) = decide (now < o.f2) := by simp; omega
        simp only [sizarlaw31_OffersOnce.j0, e, bne_self_eq_false]
        rw [if_neg (by simp), if_pos trivial, take _ (by omega) _ _ _ _ _ (by omega), same _ _ (by omega) _ (by omega), Option.bind_some, Option.bind_some, if_pos (by simp), tk_no hk]
        simp only [sizarlaw31_OffersOnce.j1]
        rw [if_neg (by simp), take _ (by omega) _ _ _ _ _ (by omega), make _ (by omega) o _ (by omega), Option.bind_some, Option.bind_some, t, mk_ins]
        rfl
    · rw [if_neg hz, mk_no hz]
      rfl
  · rw [if_neg (by simpa using h)]
end Go.Proofs.Ytnegohkckgfbiaa.X
-- The row of the law OffersOnce, out of its pure proof and its walk (written by wip/mkrow.py).
namespace Go.Proofs.Ytnegohkckgfbiaa.offersOnce
open Go.ChangeShapes Go.WideShapes Go.ChangeAt Go.RowKit Go.Proofs.YtnegohkckgfbiaaW.PrintWords Go.Proofs.YtnegohkckgfbiaaW.Opn Go.Proofs.Ytnegohkckgfbiaa.X
open Go.ChangeMaps (open_string shut_string)
set_option linter.unusedVariables false
theorem own : ownKnob Try.prog.godebug = none := by kernel_rfl
theorem laidOut : laidOutB Try.prog = true := by kernel_rfl
set_option maxRecDepth 100000 in
theorem lifted (os : Os) (started : os.Started) (H : Type) (enc : TypeId × Value → H) :
    ReturnsInHanded {} Try.checked os 6 .any (Rows.offersOnceSpec.pre6 enc Try.prog Try.f6 Rows.offersOnceRow.domain false) (Rows.offersOnceSpec.post enc Try.prog Try.f6 false true false false) := by
  refine returnsInHanded_of_change_sized (C := Try.checked) own started (by kernel_rfl) Try.func6
    (ChangeSpec.witness6 (enc := enc) (C := Try.checked) false ⟨#[], #[.slice none 0 0, .agg #[.int .i64 0,.int .i64 0,.int .i64 0,.int .i64 0], .int .i64 0], []⟩ 8 (by kernel_rfl) (by kernel_rfl) (by kernel_rfl) (by kernel_rfl)) ?_
  intro W base args ds gs before hval0 hW hcnd hsz0 _
  have hval : ∀ (j : Nat) t v, Try.f6.params[j]? = some t → args[j]? = some v → Value.okWide Try.prog W .any base t v := hval0
  have hW' := hW
  obtain ⟨p, q, hA0, hV, rfl, hfz, hnd⟩ := hW
  have hA : DataW.TrodAll enc Try.prog W 0 (fun _ => true) true Try.f6.params.toList args.toList ds p := hA0
  rw [Try.params6] at hA hval
  obtain ⟨v0, vs0, d0, ds0, p0, q0, hargs, rfl, rfl, h0, r0⟩ := trodAll_cons hA
  obtain ⟨v1, vs1, d1, ds1, p1, q1, rfl, rfl, rfl, h1, r1⟩ := trodAll_cons r0
  obtain ⟨v2, vs2, d2, ds2, p2, q2, rfl, rfl, rfl, h2, r2⟩ := trodAll_cons r1
  obtain ⟨rfl, rfl, rfl⟩ := trodAll_nil r2
  obtain rfl : args = #[v0, v1, v2] := by cases args; simp_all
  obtain ⟨rfl, rfl⟩ := trodVars_none hV
  have k0 := h0
  have lt0 : ∀ x ∈ p0, x.block < W.heap.size := by obtain ⟨m, hm⟩ := k0; exact DataW.trod_lt m _ _ _ hm
  obtain ⟨A0, c0, l0, rfl, hc0, hr0, ho0⟩ := Opens.arg_slice op26 Try.underlying22 (hval 0 22 v0 rfl rfl) h0
  have k1 := h1
  have lt1 : ∀ x ∈ p1, x.block < W.heap.size := by obtain ⟨m, hm⟩ := k1; exact DataW.trod_lt m _ _ _ hm
  obtain ⟨y1, cs1, rfl, hk1, ho1⟩ := Opens.arg_struct op26 Try.underlying26 (hval 1 26 v1 rfl rfl) h1
  obtain rfl := k26_open hk1
  have k2 := h2
  have lt2 : ∀ x ∈ p2, x.block < W.heap.size := by obtain ⟨m, hm⟩ := k2; exact DataW.trod_lt m _ _ _ hm
  obtain ⟨a2, rfl, rfl, rfl, w2⟩ := open_int Try.underlying3 (hval 2 3 v2 rfl rfl) h2
  clear hA0 hval0 hsz0
  obtain ⟨k, hk_⟩ := Pu.OffersOnce l0 y1 a2 w2
  refine (sizarlaw31_OffersOnce.calls k A0 c0 l0 y1.f0 y1.f1.f0 y1.f1.f1 y1.f2 a2 true W hr0 hc0 hk_).mono fun e W' ⟨he, bel0⟩ => ?_
  have bel : Below W.heap.size W W' := bel0
  subst he
  exact ⟨_, rfl, _, _, _, [], _, [], hW', trodAll_mk1 (shut_bool Try.underlying4 _), (trodAll_cons_mk (Below.trod laidOut (by kernel_rfl) (of_decide_eq_true (by kernel_rfl)) k0 bel lt0) (trodAll_cons_mk (Below.trod laidOut (by kernel_rfl) (of_decide_eq_true (by kernel_rfl)) k1 bel lt1) (trodAll_cons_mk (Below.trod laidOut (by kernel_rfl) (of_decide_eq_true (by kernel_rfl)) k2 bel lt2) trodAll_mk0))), rfl, bel.frame _, fun h => by cases h⟩
theorem over : Rows.offersOnceRow.holds Try.pinned (OpenSpec.ofChange Rows.offersOnceSpec) :=
  OpenClaim.holds_of_wide 6 Try.f6 rfl rfl rfl rfl rfl rfl rfl ⟨rfl, rfl, rfl, rfl, rfl⟩ rfl rfl rfl rfl rfl (by kernel_rfl) Try.func6 (by kernel_rfl)
    (of_decide_eq_true (by kernel_rfl)) (by unfold Func.isWrapper; first | (rw [if_pos (by decide +kernel)]; kernel_rfl) | (rw [if_neg (by decide +kernel)]; exact ⟨rfl, rfl⟩))
    (fun os started H enc _ => lifted os started H enc)
end Go.Proofs.Ytnegohkckgfbiaa.offersOnce
namespace Go.Proofs.Ytnegohkckgfbiaa
/-- The row, under a short name, for the claim. -/
theorem offersOnce_holds : Rows.OffersOnceSaid := offersOnce.over
#print axioms offersOnce_holds
end Go.Proofs.Ytnegohkckgfbiaa
