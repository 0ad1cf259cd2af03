/- The law WaitingFirstSpec is proved, whatever its input: no condition. -/
import Derived.Test.Ytjffojmpfdoodaaqb5
import Derived.Test.Ytjffojmpfdoodaaqrx34
import Derived.Test.Ytjffojmpfdoodaaqrx35
import Derived.Test.Ytjffojmpfdoodaaqrx40
import Derived.Test.Ytjffojmpfdoodaaqrx33
import Derived.Test.Ytjffojmpfdoodaaqrx41
import Derived.Test.Ytjffojmpfdoodaaqrx42
import Derived.Test.Ytjffojmpfdoodaaqrx43
import Derived.ChangeOld
import Derived.OpenShut
import Derived.ProofKit
import Derived.ShutString
import Derived.SizedLaws
import Derived.Test.YtjffojmpfdoodaaRows
-- What the functions of the package waiting and of its reference compute, in plain lists.
namespace Go.Proofs.Ytjffojmpfdoodaa.X
open Go.RowKit Go.Proofs.YtjffojmpfdoodaaW.PrintWords
set_option linter.unusedVariables false
set_option linter.unusedSimpArgs false
deriving instance DecidableEq for S24
deriving instance DecidableEq for S26
namespace Z
def lt (a b : S26) : Bool := decide (a.f1.f0 < b.f1.f0 ∨ a.f1.f0 = b.f1.f0 ∧ (a.f1.f1 < b.f1.f1 ∨ a.f1.f1 = b.f1.f1 ∧ (a.f2 < b.f2 ∨ a.f2 = b.f2 ∧ (a.f3 < b.f3 ∨ a.f3 = b.f3 ∧ a.f0 < b.f0))))
theorem w64 (i : Nat) (h : i < 1000000) : wrap64 ((i : Int) + 1) = ((i + 1 : Nat) : Int) := by unfold wrap64; omega
theorem rd_at {l : List S26} {i : Nat} (h : i < l.length) : rd_T26 l (i : Int) = l[i] := by simp [rd_T26, List.getD_eq_getElem?_getD, List.getElem?_eq_getElem h]
theorem prec_lt (a b : S26) : prec [a.f1.f0, a.f1.f1, a.f2, a.f3, a.f0] [b.f1.f0, b.f1.f1, b.f2, b.f3, b.f0] = lt a b := by
  simp only [prec, lt]
  repeat' split
  all_goals (first | (rw [decide_eq_decide]; omega) | (symm; rw [decide_eq_false_iff_not]; omega))
theorem byl_lt (a b : S26) : (byl [a.f1.f0, a.f1.f1, a.f2, a.f3, a.f0] [b.f1.f0, b.f1.f1, b.f2, b.f3, b.f0] < 0 ↔ lt a b = true) ∧ (0 ≤ byl [a.f1.f0, a.f1.f1, a.f2, a.f3, a.f0] [b.f1.f0, b.f1.f1, b.f2, b.f3, b.f0] ↔ lt a b = false) := by
  have h : byl [a.f1.f0, a.f1.f1, a.f2, a.f3, a.f0] [b.f1.f0, b.f1.f1, b.f2, b.f3, b.f0] < 0 ↔ lt a b = true := by
    simp only [byl, cmpI, lt, decide_eq_true_eq]
    repeat' split
    all_goals omega
  refine ⟨h, ?_⟩
  rw [Bool.eq_false_iff, Ne, ← h]
  omega
theorem compare_ (a b : S26) : ∃ t, waiting_compare.f a.f0 a.f1.f0 a.f1.f1 a.f2 a.f3 b.f0 b.f1.f0 b.f1.f1 b.f2 b.f3 = some t ∧ (t < 0 ↔ lt a b = true) ∧ (0 ≤ t ↔ lt a b = false) := ⟨_, rfl, byl_lt a b⟩
theorem precedes_ (a b : S26) : sizarref26_Precedes.f a.f0 a.f1.f0 a.f1.f1 a.f2 a.f3 b.f0 b.f1.f0 b.f1.f1 b.f2 b.f3 = some (lt a b) := by
  unfold sizarref26_Precedes.f
  rw [prec_lt]
end Z
end Go.Proofs.Ytjffojmpfdoodaa.X
-- The theory of waitlists: lists in strict order, each student once a bundle.
namespace Go.Proofs.Ytjffojmpfdoodaa.X
open Go.RowKit Go.Proofs.YtjffojmpfdoodaaW.PrintWords
set_option linter.unusedVariables false
set_option linter.unusedSimpArgs false
namespace Z
/-! the index of a wait -/
theorem idx_or (p : S26 → Bool) : ∀ (l : List S26) (i : Nat), (idxFrom p l i = -1 ∧ l.any p = false) ∨ (∃ j : Nat, ∃ h : j < l.length, idxFrom p l i = ((i + j : Nat) : Int) ∧ p l[j] = true ∧ l.any p = true)
  | [], i => .inl ⟨rfl, rfl⟩
  | x :: r, i => by
    simp only [idxFrom, List.any_cons]
    by_cases hx : p x = true
    · exact .inr ⟨0, by simp, by simp [hx], by simpa using hx, by simp [hx]⟩
    · rw [if_neg hx]
      rw [Bool.not_eq_true] at hx
      rcases idx_or p r (i + 1) with ⟨h1, h2⟩ | ⟨j, h, h1, h2, h3⟩
      · exact .inl ⟨h1, by simp only [hx, h2, Bool.or_self]⟩
      · exact .inr ⟨j + 1, by simpa using h, by rw [h1]; congr 1; omega, by simpa using h2, by rw [h3, Bool.or_true]⟩
/-! places -/
def bd (a b : Int) (v : S26) : Bool := v.f1.f0 == a && v.f1.f1 == b
def fl (a b : Int) : S26 → Bool → List S26 → S26 × Bool
  | w, k, [] => (w, k)
  | w, k, v :: r => if bd a b v = true ∧ (k = false ∨ lt v w = true) then fl a b v true r else fl a b w k r
end Z
end Go.Proofs.Ytjffojmpfdoodaa.X
-- What the functions of the package waiting and of its reference answer: both sides compute the same plain functions of lists.
namespace Go.Proofs.Ytjffojmpfdoodaa.X
open Go.RowKit Go.Proofs.YtjffojmpfdoodaaW.PrintWords
set_option linter.unusedVariables false
set_option linter.unusedSimpArgs false
namespace Z
theorem at_loop (l : List S26) (hl : l.length ≤ 1000) (s a b : Int) : ∀ (n i k : Nat), n + i = l.length → n + 1 ≤ k → sizarref26_index.l0 k l s (i : Int) a b = some (idxFrom (isOffer s a b) (l.drop i) i)
  | 0, i, k + 1, h, hk => by
    unfold sizarref26_index.l0
    rw [if_neg (by omega), List.drop_eq_nil_of_le (by omega)]
    rfl
  | n + 1, i, k + 1, h, hk => by
    have hi : i < l.length := by omega
    have ih := at_loop l hl s a b n (i + 1) k (by omega) (by omega)
    unfold sizarref26_index.l0
    rw [if_pos (by omega), if_pos (by omega), idxFrom_step _ _ _ hi, w64 _ (by omega), ih]
    by_cases h0 : (rd_T26 l (i : Int)).f0 = s
    · rw [if_pos h0]
      simp only [isOffer, h0, beq_self_eq_true, Bool.true_and]
      split <;> rfl
    · rw [if_neg h0]
      simp [isOffer, h0]
theorem at_ (l : List S26) (hl : l.length ≤ 1000) (s a b : Int) (k : Nat) (hk : l.length + 1 ≤ k) : sizarref26_index.f k l s a b = some (idxFrom (isOffer s a b) l 0) := by
  have := at_loop l hl s a b l.length 0 k (by omega) hk
  simpa [sizarref26_index.f] using this
def out5 (p : S26 × Bool) : Int × Int × Int × Int × Int × Bool := (p.1.f0, p.1.f1.f0, p.1.f1.f1, p.1.f2, p.1.f3, p.2)
theorem first_loop (l : List S26) (hl : l.length ≤ 1000) (a b : Int) : ∀ (n i k : Nat) (w : S26) (q : Bool), n + i = l.length → n + 1 ≤ k → waiting_First.l0 k q l (l.length : Int) (i : Int) a b w.f0 w.f1.f0 w.f1.f1 w.f2 w.f3 = some (out5 (fl a b w q (l.drop i)))
  | 0, i, k + 1, w, q, h, hk => by
    unfold waiting_First.l0
    rw [if_neg (by omega), List.drop_eq_nil_of_le (by omega)]
    rfl
  | n + 1, i, k + 1, w, q, h, hk => by
    have hi : i < l.length := by omega
    unfold waiting_First.l0
    obtain ⟨t, ht, ht1, ht2⟩ := compare_ l[i] w
    rw [if_pos (by omega), if_pos (by omega), if_pos (by omega), rd_at hi, w64 _ (by omega), List.drop_eq_getElem_cons hi, ht, Option.bind_some, fl, first_loop l hl a b n (i + 1) k l[i] true (by omega) (by omega), first_loop l hl a b n (i + 1) k w q (by omega) (by omega)]
    show (if bd a b l[i] = true then _ else _) = _
    by_cases hb : bd a b l[i] = true
    · rw [if_pos hb]
      cases q with
      | false => rw [if_neg (by simp), if_pos ⟨hb, .inl rfl⟩]
      | true =>
        rw [if_pos rfl]
        by_cases hlt : lt l[i] w = true
        · rw [if_pos (ht1.2 hlt), if_pos ⟨hb, .inr hlt⟩]
        · rw [if_neg (mt ht1.1 hlt), if_neg (by rintro ⟨_, h | h⟩; cases h; exact hlt h)]
    · rw [if_neg hb, if_neg (fun h => hb h.1)]
theorem first (l : List S26) (hl : l.length ≤ 1000) (a b : Int) (k : Nat) (hk : l.length + 1 ≤ k) : waiting_First.f k l a b = some (out5 (fl a b z26 false l)) := by
  have := first_loop l hl a b l.length 0 k z26 false (by omega) hk
  rw [List.drop_zero] at this
  exact this
theorem rfirst_loop (l : List S26) (hl : l.length ≤ 1000) (a b : Int) : ∀ (n i k : Nat) (w : S26) (q : Bool), n + i = l.length → n + 1 ≤ k → sizarref26_First.l0 k l q (i : Int) a b w.f0 w.f1.f0 w.f1.f1 w.f2 w.f3 = some (out5 (fl a b w q (l.drop i)))
  | 0, i, k + 1, w, q, h, hk => by
    unfold sizarref26_First.l0
    rw [if_neg (by omega), List.drop_eq_nil_of_le (by omega)]
    rfl
  | n + 1, i, k + 1, w, q, h, hk => by
    have hi : i < l.length := by omega
    unfold sizarref26_First.l0
    rw [if_pos (by omega), if_pos (by omega), rd_at hi, w64 _ (by omega), List.drop_eq_getElem_cons hi, precedes_, Option.bind_some, fl, rfirst_loop l hl a b n (i + 1) k l[i] true (by omega) (by omega), rfirst_loop l hl a b n (i + 1) k w q (by omega) (by omega)]
    show (if bd a b l[i] = true then _ else _) = _
    by_cases hb : bd a b l[i] = true
    · rw [if_pos hb]
      cases q with
      | false => rw [if_neg (by simp), if_pos ⟨hb, .inl rfl⟩]
      | true =>
        rw [if_pos rfl]
        by_cases hlt : lt l[i] w = true
        · rw [if_pos hlt, if_pos ⟨hb, .inr hlt⟩]
        · rw [if_neg hlt, if_neg (by rintro ⟨_, h | h⟩; cases h; exact hlt h)]
    · rw [if_neg hb, if_neg (fun h => hb h.1)]
theorem rfirst (l : List S26) (hl : l.length ≤ 1000) (a b : Int) (k : Nat) (hk : l.length + 1 ≤ k) : sizarref26_First.f k l a b = some (out5 (fl a b z26 false l)) := by
  have := rfirst_loop l hl a b l.length 0 k z26 false (by omega) hk
  rw [List.drop_zero] at this
  exact this

def undr (a b : Int) (o v : S26) : Bool := bd a b v && lt v o
theorem place_loop (l : List S26) (hl : l.length ≤ 1000) (a b : Int) (at' : Nat) (hat : at' < l.length) : ∀ (n i k c : Nat), n + i = l.length → n + 1 ≤ k → c + n ≤ 2000 → waiting_Place.l0 k l (c : Int) (at' : Int) l (l.length : Int) (i : Int) a b = some (((c + (l.drop i).countP (undr a b l[at']) : Nat) : Int), true)
  | 0, i, k + 1, c, h, hk, hc => by
    unfold waiting_Place.l0
    rw [if_neg (by omega), List.drop_eq_nil_of_le (by omega)]
    rfl
  | n + 1, i, k + 1, c, h, hk, hc => by
    have hi : i < l.length := by omega
    unfold waiting_Place.l0
    obtain ⟨t, ht, ht1, ht2⟩ := compare_ l[i] l[at']
    rw [if_pos (by omega), if_pos (by omega), if_pos (by omega), rd_at hi, rd_at hat, w64 _ (by omega), w64 _ (by omega), List.drop_eq_getElem_cons hi, ht, Option.bind_some, List.countP_cons, place_loop l hl a b at' hat n (i + 1) k (c + 1) (by omega) (by omega) (by omega), place_loop l hl a b at' hat n (i + 1) k c (by omega) (by omega) (by omega), if_pos (show (0 : Int) ≤ (at' : Int) by omega), if_pos (show (at' : Int) < (l.length : Int) by omega)]
    show (if bd a b l[i] = true then _ else _) = _
    unfold undr
    by_cases hb : bd a b l[i] = true
    · by_cases hlt : lt l[i] l[at'] = true
      · rw [if_pos hb, if_pos (ht1.2 hlt), hb, hlt]
        simp
        omega
      · rw [if_pos hb, if_neg (mt ht1.1 hlt), hb]
        simp [hlt]
    · rw [if_neg hb]
      simp [hb]
theorem rplace_loop (l : List S26) (hl : l.length ≤ 1000) (a b : Int) (at' : Nat) (hat : at' < l.length) : ∀ (n i k c : Nat), n + i = l.length → n + 1 ≤ k → c + n ≤ 2000 → sizarref26_Place.l0 k l (at' : Int) (c : Int) (i : Int) a b = some (((c + (l.drop i).countP (undr a b l[at']) : Nat) : Int), true)
  | 0, i, k + 1, c, h, hk, hc => by
    unfold sizarref26_Place.l0
    rw [if_neg (by omega), List.drop_eq_nil_of_le (by omega)]
    rfl
  | n + 1, i, k + 1, c, h, hk, hc => by
    have hi : i < l.length := by omega
    unfold sizarref26_Place.l0
    rw [if_pos (by omega), if_pos (show (0 : Int) ≤ (i : Int) by omega), rd_at hi, rd_at hat, w64 _ (by omega), w64 _ (by omega), List.drop_eq_getElem_cons hi, precedes_, Option.bind_some, List.countP_cons, rplace_loop l hl a b at' hat n (i + 1) k (c + 1) (by omega) (by omega) (by omega), rplace_loop l hl a b at' hat n (i + 1) k c (by omega) (by omega) (by omega), if_pos (show (0 : Int) ≤ (at' : Int) by omega), if_pos (show (at' : Int) < (l.length : Int) by omega)]
    show (if bd a b l[i] = true then _ else _) = _
    unfold undr
    by_cases hb : bd a b l[i] = true
    · by_cases hlt : lt l[i] l[at'] = true
      · rw [if_pos hb, if_pos hlt, hb, hlt]
        simp
        omega
      · rw [if_pos hb, if_neg hlt, hb]
        simp [hlt]
    · rw [if_neg hb]
      simp [hb]
def plc (l : List S26) (s a b : Int) : Int × Bool :=
  if idxFrom (isOffer s a b) l 0 < 0 then (0, false) else (((1 + l.countP (undr a b (rd_T26 l (idxFrom (isOffer s a b) l 0))) : Nat) : Int), true)
theorem place (l : List S26) (hl : l.length ≤ 1000) (s a b : Int) (k : Nat) (hk : l.length + 1 ≤ k) : waiting_Place.f k l s a b = some (plc l s a b) := by
  unfold waiting_Place.f plc
  simp only [waiting_find.f, Option.bind_some]
  rcases idx_or (isOffer s a b) l 0 with ⟨h1, h2⟩ | ⟨j, hj, h1, h2, h3⟩
  · rw [h1]
    rfl
  · rw [h1, Nat.zero_add, if_neg (by omega), if_neg (by omega), rd_at hj]
    have := place_loop l hl a b j hj l.length 0 k 1 (by omega) hk (by omega)
    simpa using this
theorem rplace (l : List S26) (hl : l.length ≤ 1000) (s a b : Int) (k : Nat) (hk : l.length + 1 ≤ k) : sizarref26_Place.f k l s a b = some (plc l s a b) := by
  unfold sizarref26_Place.f plc
  rw [at_ l hl _ _ _ _ hk, Option.bind_some]
  rcases idx_or (isOffer s a b) l 0 with ⟨h1, h2⟩ | ⟨j, hj, h1, h2, h3⟩
  · rw [h1]
    rfl
  · rw [h1, Nat.zero_add, if_neg (by omega), if_neg (by omega), rd_at hj]
    have := rplace_loop l hl a b j hj l.length 0 k 1 (by omega) hk (by omega)
    simpa using this
def of' (l : List S26) (s : Int) : List S24 := (l.filter (fun v => v.f0 == s)).map (fun v => v.f1)
theorem of_cons (x : S26) (r : List S26) (s : Int) : of' (x :: r) s = if x.f0 = s then x.f1 :: of' r s else of' r s := by
  simp only [of', List.filter_cons]
  by_cases h : x.f0 = s <;> simp [h]
theorem of_loop (l : List S26) (hl : l.length ≤ 1000) (s : Int) : ∀ (n i k : Nat) (x : List S24), n + i = l.length → n + 1 ≤ k → x.length + n ≤ 2000 → waiting_Of.l0 k s x l (l.length : Int) (i : Int) = some (x ++ of' (l.drop i) s)
  | 0, i, k + 1, x, h, hk, hx => by
    unfold waiting_Of.l0
    rw [if_neg (by omega), List.drop_eq_nil_of_le (by omega)]
    simp [of']
  | n + 1, i, k + 1, x, h, hk, hx => by
    have hi : i < l.length := by omega
    unfold waiting_Of.l0
    rw [if_pos (by omega), if_pos (by omega), if_pos (by omega), rd_at hi, w64 _ (by omega), List.drop_eq_getElem_cons hi]
    by_cases h0 : l[i].f0 = s
    · rw [if_pos h0, if_pos (by omega), of_loop l hl s n (i + 1) k _ (by omega) (by omega) (by simp; omega), of_cons, if_pos h0, List.append_assoc]
      rfl
    · rw [if_neg h0, of_loop l hl s n (i + 1) k _ (by omega) (by omega) (by omega), of_cons, if_neg h0]
theorem of_ (l : List S26) (hl : l.length ≤ 1000) (s : Int) (k : Nat) (hk : l.length + 1 ≤ k) : waiting_Of.f k l s = some (of' l s) := by
  have := of_loop l hl s l.length 0 k [] (by omega) hk (by simp; omega)
  simpa [waiting_Of.f] using this
theorem rof_loop (l : List S26) (hl : l.length ≤ 1000) (s : Int) : ∀ (n i k : Nat) (x : List S24), n + i = l.length → n + 1 ≤ k → x.length + n ≤ 2000 → sizarref26_Of.l0 k l s x (i : Int) = some (x ++ of' (l.drop i) s)
  | 0, i, k + 1, x, h, hk, hx => by
    unfold sizarref26_Of.l0
    rw [if_neg (by omega), List.drop_eq_nil_of_le (by omega)]
    simp [of']
  | n + 1, i, k + 1, x, h, hk, hx => by
    have hi : i < l.length := by omega
    unfold sizarref26_Of.l0
    rw [if_pos (by omega), if_pos (by omega), rd_at hi, w64 _ (by omega), List.drop_eq_getElem_cons hi]
    by_cases h0 : l[i].f0 = s
    · rw [if_pos h0, if_pos (by omega), rof_loop l hl s n (i + 1) k _ (by omega) (by omega) (by simp; omega), of_cons, if_pos h0, List.append_assoc]
      rfl
    · rw [if_neg h0, rof_loop l hl s n (i + 1) k _ (by omega) (by omega) (by omega), of_cons, if_neg h0]
theorem rof_ (l : List S26) (hl : l.length ≤ 1000) (s : Int) (k : Nat) (hk : l.length + 1 ≤ k) : sizarref26_Of.f k l s = some (of' l s) := by
  have := rof_loop l hl s l.length 0 k [] (by omega) hk (by simp; omega)
  simpa [sizarref26_Of.f] using this
theorem of_len (l : List S26) (s : Int) : (of' l s).length ≤ l.length := by
  simp only [of', List.length_map]
  exact List.length_filter_le _ _

theorem rd24_at {l : List S24} {i : Nat} (h : i < l.length) : rd_T24 l (i : Int) = l[i] := by simp [rd_T24, List.getD_eq_getElem?_getD, List.getElem?_eq_getElem h]
theorem sameb_loop (l m : List S24) (hl : l.length ≤ 1000) (he : l.length = m.length) : ∀ (n i k : Nat), n + i = l.length → n + 1 ≤ k → sizarref26_SameBundles.l0 k l m (i : Int) = some (decide (l.drop i = m.drop i))
  | 0, i, k + 1, h, hk => by
    unfold sizarref26_SameBundles.l0
    rw [if_neg (by omega), List.drop_eq_nil_of_le (by omega), List.drop_eq_nil_of_le (by omega)]
    simp
  | n + 1, i, k + 1, h, hk => by
    have hi : i < l.length := by omega
    have hi' : i < m.length := by omega
    have ih := sameb_loop l m hl he n (i + 1) k (by omega) (by omega)
    unfold sizarref26_SameBundles.l0
    rw [if_pos (by omega), if_pos (by omega), if_pos (by omega), rd24_at hi, rd24_at hi', w64 _ (by omega), ih, List.drop_eq_getElem_cons hi, List.drop_eq_getElem_cons hi']
    generalize l[i] = x
    generalize m[i] = y
    obtain ⟨x1, x2⟩ := x
    obtain ⟨y1, y2⟩ := y
    by_cases h1 : x1 = y1 <;> by_cases h2 : x2 = y2 <;> simp [h1, h2]
theorem sameb_ (l m : List S24) (hl : l.length ≤ 1000) (k : Nat) (hk : l.length + 1 ≤ k) : sizarref26_SameBundles.f k l m = some (decide (l = m)) := by
  unfold sizarref26_SameBundles.f
  by_cases he : l.length = m.length
  · rw [if_pos (by omega)]
    have := sameb_loop l m hl he l.length 0 k (by omega) hk
    simpa using this
  · rw [if_neg (by omega)]
    simp
    intro h
    exact he (by rw [h])
theorem few (l : List S26) : sizarref26_Few.f l = some (decide (l.length ≤ 40)) := by
  unfold sizarref26_Few.f
  congr 1
  rw [decide_eq_decide]
  omega
theorem sane : sizarlaw26_sane.f 300 = some true := by decide +kernel
end Z
end Go.Proofs.Ytjffojmpfdoodaa.X
-- The laws of the package waiting, in plain lists.
namespace Go.Proofs.Ytjffojmpfdoodaa.X
open Go.RowKit Go.Proofs.YtjffojmpfdoodaaW.PrintWords
set_option linter.unusedVariables false
set_option linter.unusedSimpArgs false
namespace Z
end Z
open Z
theorem Pu.WaitingFirstSpec (l0 : List S26) (a1 : Int) (w1 : (Lit.int .i64 a1).wf = true) (z : S24) : ∃ k, sizarlaw26_WaitingFirstSpec.f k l0 a1 z.f0 z.f1 = some true := by
  refine ⟨300, ?_⟩
  unfold sizarlaw26_WaitingFirstSpec.f
  rw [sane, Option.bind_some, if_pos rfl, few, Option.bind_some]
  by_cases h : l0.length ≤ 40
  · have := of_len l0 a1
    rw [if_pos (by simpa using h), first l0 (by omega) _ _ _ (by omega), rfirst l0 (by omega) _ _ _ (by omega), place l0 (by omega) _ _ _ _ (by omega), rplace l0 (by omega) _ _ _ _ (by omega), Option.bind_some, Option.bind_some, Option.bind_some, Option.bind_some, if_pos (by simp), if_pos (by simp), if_pos rfl, if_pos (by simp), of_ _ (by omega) _ _ (by omega), rof_ _ (by omega) _ _ (by omega), Option.bind_some, Option.bind_some, sameb_ _ _ (by omega) _ (by omega)]
    simp
  · rw [if_neg (by simpa using h)]

end Go.Proofs.Ytjffojmpfdoodaa.X
-- The row of the law WaitingFirstSpec, out of its pure proof and its walk (written by wip/mkrow.py).
namespace Go.Proofs.Ytjffojmpfdoodaa.waitingFirstSpec
open Go.ChangeShapes Go.WideShapes Go.ChangeAt Go.RowKit Go.Proofs.YtjffojmpfdoodaaW.PrintWords Go.Proofs.YtjffojmpfdoodaaW.Opn Go.Proofs.Ytjffojmpfdoodaa.X
open Go.ChangeMaps (open_string shut_string)
set_option linter.unusedVariables false
theorem own : ownKnob Try.prog.godebug = none := by kernel_rfl
theorem laidOut : laidOutB Try.prog = true := by kernel_rfl
set_option maxRecDepth 100000 in
theorem lifted (os : Os) (started : os.Started) (H : Type) (enc : TypeId × Value → H) :
    ReturnsInHanded {} Try.checked os 6 .any (Rows.waitingFirstSpecSpec.pre6 enc Try.prog Try.f6 Rows.waitingFirstSpecRow.domain false) (Rows.waitingFirstSpecSpec.post enc Try.prog Try.f6 false true false false) := by
  refine returnsInHanded_of_change_sized (C := Try.checked) own started (by kernel_rfl) Try.func6
    (ChangeSpec.witness6 (enc := enc) (C := Try.checked) false ⟨#[], #[.slice none 0 0, .int .i64 0, .agg #[.int .i64 0,.int .i64 0]], []⟩ 8 (by kernel_rfl) (by kernel_rfl) (by kernel_rfl) (by kernel_rfl)) ?_
  intro W base args ds gs before hval0 hW hcnd hsz0 _
  have hval : ∀ (j : Nat) t v, Try.f6.params[j]? = some t → args[j]? = some v → Value.okWide Try.prog W .any base t v := hval0
  have hW' := hW
  obtain ⟨p, q, hA0, hV, rfl, hfz, hnd⟩ := hW
  have hA : DataW.TrodAll enc Try.prog W 0 (fun _ => true) true Try.f6.params.toList args.toList ds p := hA0
  rw [Try.params6] at hA hval
  obtain ⟨v0, vs0, d0, ds0, p0, q0, hargs, rfl, rfl, h0, r0⟩ := trodAll_cons hA
  obtain ⟨v1, vs1, d1, ds1, p1, q1, rfl, rfl, rfl, h1, r1⟩ := trodAll_cons r0
  obtain ⟨v2, vs2, d2, ds2, p2, q2, rfl, rfl, rfl, h2, r2⟩ := trodAll_cons r1
  obtain ⟨rfl, rfl, rfl⟩ := trodAll_nil r2
  obtain rfl : args = #[v0, v1, v2] := by cases args; simp_all
  obtain ⟨rfl, rfl⟩ := trodVars_none hV
  have k0 := h0
  have lt0 : ∀ x ∈ p0, x.block < W.heap.size := by obtain ⟨m, hm⟩ := k0; exact DataW.trod_lt m _ _ _ hm
  obtain ⟨A0, c0, l0, rfl, hc0, hr0, ho0⟩ := Opens.arg_slice op26 Try.underlying22 (hval 0 22 v0 rfl rfl) h0
  have k1 := h1
  have lt1 : ∀ x ∈ p1, x.block < W.heap.size := by obtain ⟨m, hm⟩ := k1; exact DataW.trod_lt m _ _ _ hm
  obtain ⟨a1, rfl, rfl, rfl, w1⟩ := open_int Try.underlying3 (hval 1 3 v1 rfl rfl) h1
  have k2 := h2
  have lt2 : ∀ x ∈ p2, x.block < W.heap.size := by obtain ⟨m, hm⟩ := k2; exact DataW.trod_lt m _ _ _ hm
  obtain ⟨y2, cs2, rfl, hk2, ho2⟩ := Opens.arg_struct op24 Try.underlying24 (hval 2 24 v2 rfl rfl) h2
  obtain rfl := k24_open hk2
  clear hA0 hval0 hsz0
  obtain ⟨k, hk_⟩ := Pu.WaitingFirstSpec l0 a1 w1 y2
  refine (sizarlaw26_WaitingFirstSpec.calls k A0 c0 l0 a1 y2.f0 y2.f1 true W hr0 hc0 hk_).mono fun e W' ⟨he, bel0⟩ => ?_
  have bel : Below W.heap.size W W' := bel0
  subst he
  exact ⟨_, rfl, _, _, _, [], _, [], hW', trodAll_mk1 (shut_bool Try.underlying4 _), (trodAll_cons_mk (Below.trod laidOut (by kernel_rfl) (of_decide_eq_true (by kernel_rfl)) k0 bel lt0) (trodAll_cons_mk (Below.trod laidOut (by kernel_rfl) (of_decide_eq_true (by kernel_rfl)) k1 bel lt1) (trodAll_cons_mk (Below.trod laidOut (by kernel_rfl) (of_decide_eq_true (by kernel_rfl)) k2 bel lt2) trodAll_mk0))), rfl, bel.frame _, fun h => by cases h⟩
theorem over : Rows.waitingFirstSpecRow.holds Try.pinned (OpenSpec.ofChange Rows.waitingFirstSpecSpec) :=
  OpenClaim.holds_of_wide 6 Try.f6 rfl rfl rfl rfl rfl rfl rfl ⟨rfl, rfl, rfl, rfl, rfl⟩ rfl rfl rfl rfl rfl (by kernel_rfl) Try.func6 (by kernel_rfl)
    (of_decide_eq_true (by kernel_rfl)) (by unfold Func.isWrapper; first | (rw [if_pos (by decide +kernel)]; kernel_rfl) | (rw [if_neg (by decide +kernel)]; exact ⟨rfl, rfl⟩))
    (fun os started H enc _ => lifted os started H enc)
end Go.Proofs.Ytjffojmpfdoodaa.waitingFirstSpec
namespace Go.Proofs.Ytjffojmpfdoodaa
/-- The row, under a short name, for the claim. -/
theorem waitingFirstSpec_holds : Rows.WaitingFirstSpecSaid := waitingFirstSpec.over
#print axioms waitingFirstSpec_holds
end Go.Proofs.Ytjffojmpfdoodaa
