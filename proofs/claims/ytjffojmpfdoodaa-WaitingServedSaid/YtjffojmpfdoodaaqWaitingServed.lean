/- The law WaitingServed is proved, whatever its input: no condition. -/
import Derived.Test.Ytjffojmpfdoodaaqb5
import Derived.Test.Ytjffojmpfdoodaaqrvb
import Derived.Test.Ytjffojmpfdoodaaqrx49
import Derived.ChangeOld
import Derived.OpenShut
import Derived.ProofKit
import Derived.ShutString
import Derived.SizedLaws
import Derived.Test.YtjffojmpfdoodaaRows
-- What the functions of the package waiting and of its reference compute, in plain lists.
namespace Go.Proofs.Ytjffojmpfdoodaa.X
open Go.RowKit Go.Proofs.YtjffojmpfdoodaaW.PrintWords
set_option linter.unusedVariables false
set_option linter.unusedSimpArgs false
deriving instance DecidableEq for S24
deriving instance DecidableEq for S26
namespace Z
def ok (o : S26) : Bool := decide (0 ≤ o.f0 ∧ o.f0 < 20000 ∧ 0 ≤ o.f1.f0 ∧ o.f1.f0 < 4000 ∧ -1 ≤ o.f1.f1 ∧ o.f1.f1 < 4000 ∧ o.f1.f1 ≠ o.f1.f0 ∧ 0 ≤ o.f2 ∧ o.f2 ≤ 1073741824 ∧ 0 ≤ o.f3 ∧ o.f3 ≤ 1048576)
def lt (a b : S26) : Bool := decide (a.f1.f0 < b.f1.f0 ∨ a.f1.f0 = b.f1.f0 ∧ (a.f1.f1 < b.f1.f1 ∨ a.f1.f1 = b.f1.f1 ∧ (a.f2 < b.f2 ∨ a.f2 = b.f2 ∧ (a.f3 < b.f3 ∨ a.f3 = b.f3 ∧ a.f0 < b.f0))))
theorem same_iff {a b : S26} : same a b = true ↔ a.f0 = b.f0 ∧ a.f1.f0 = b.f1.f0 ∧ a.f1.f1 = b.f1.f1 := by simp [same]
theorem same_comm (a b : S26) : same a b = same b a := by
  rw [Bool.eq_iff_iff, same_iff, same_iff]
  constructor <;> (rintro ⟨h1, h2, h3⟩; exact ⟨h1.symm, h2.symm, h3.symm⟩)
theorem same_self (a : S26) : same a a = true := by simp [same]
theorem lt_trans {a b c : S26} (h : lt a b = true) (h' : lt b c = true) : lt a c = true := by
  simp only [lt, decide_eq_true_eq] at *
  omega
theorem lt_irrefl (a : S26) : lt a a = false := by
  simp [lt]
theorem lt_asymm {a b : S26} (h : lt a b = true) (h' : lt b a = true) : False := by
  have := lt_trans h h'
  rw [lt_irrefl] at this
  cases this
theorem w64 (i : Nat) (h : i < 1000000) : wrap64 ((i : Int) + 1) = ((i + 1 : Nat) : Int) := by unfold wrap64; omega
theorem rd_at {l : List S26} {i : Nat} (h : i < l.length) : rd_T26 l (i : Int) = l[i] := by simp [rd_T26, List.getD_eq_getElem?_getD, List.getElem?_eq_getElem h]
theorem byl_lt (a b : S26) : (byl [a.f1.f0, a.f1.f1, a.f2, a.f3, a.f0] [b.f1.f0, b.f1.f1, b.f2, b.f3, b.f0] < 0 ↔ lt a b = true) ∧ (0 ≤ byl [a.f1.f0, a.f1.f1, a.f2, a.f3, a.f0] [b.f1.f0, b.f1.f1, b.f2, b.f3, b.f0] ↔ lt a b = false) := by
  have h : byl [a.f1.f0, a.f1.f1, a.f2, a.f3, a.f0] [b.f1.f0, b.f1.f1, b.f2, b.f3, b.f0] < 0 ↔ lt a b = true := by
    simp only [byl, cmpI, lt, decide_eq_true_eq]
    repeat' split
    all_goals omega
  refine ⟨h, ?_⟩
  rw [Bool.eq_false_iff, Ne, ← h]
  omega
theorem compare_ (a b : S26) : ∃ t, waiting_compare.f a.f0 a.f1.f0 a.f1.f1 a.f2 a.f3 b.f0 b.f1.f0 b.f1.f1 b.f2 b.f3 = some t ∧ (t < 0 ↔ lt a b = true) ∧ (0 ≤ t ↔ lt a b = false) := ⟨_, rfl, byl_lt a b⟩
def err (b : Bool) : Int := if b then 0 else 260
end Z
end Go.Proofs.Ytjffojmpfdoodaa.X
-- The theory of waitlists: lists in strict order, each student once a bundle.
namespace Go.Proofs.Ytjffojmpfdoodaa.X
open Go.RowKit Go.Proofs.YtjffojmpfdoodaaW.PrintWords
set_option linter.unusedVariables false
set_option linter.unusedSimpArgs false
namespace Z
def V (l : List S26) : Prop := (∀ x ∈ l, ok x = true) ∧ l.Pairwise (fun a b => lt a b = true) ∧ l.Pairwise (fun a b => same a b = false)
def good (l : List S26) (i : Nat) : Bool := ok (rd_T26 l i) && (i == 0 || lt (rd_T26 l ((i - 1 : Nat) : Int)) (rd_T26 l i)) && !(l.take i).any (same (rd_T26 l i))
def chkB (l : List S26) : Nat → Nat → Bool
  | 0, _ => true
  | n + 1, i => good l i && chkB l n (i + 1)
def chk (l : List S26) : Bool := chkB l l.length 0
theorem chkB_iff (l : List S26) : ∀ n i, chkB l n i = true ↔ ∀ j, i ≤ j → j < i + n → good l j = true
  | 0, i => by simp only [chkB, true_iff]; intro j h1 h2; omega
  | n + 1, i => by
    rw [chkB, Bool.and_eq_true, chkB_iff l n (i + 1)]
    constructor
    · rintro ⟨h0, h⟩ j h1 h2
      by_cases e : j = i
      · rw [e]; exact h0
      · exact h j (by omega) (by omega)
    · intro h
      exact ⟨h i (Nat.le_refl _) (by omega), fun j h1 h2 => h j (by omega) (by omega)⟩
theorem chk_V {l : List S26} : chk l = true ↔ V l := by
  unfold chk
  rw [chkB_iff]
  constructor
  · intro h
    have hg : ∀ j (hj : j < l.length), good l j = true := fun j hj => h j (Nat.zero_le _) (by omega)
    refine ⟨fun x hx => ?_, ?_, ?_⟩
    · obtain ⟨j, hj, rfl⟩ := List.getElem_of_mem hx
      have := hg j hj
      simp only [good, Bool.and_eq_true, rd_at hj] at this
      exact this.1.1
    · rw [List.pairwise_iff_getElem]
      have step : ∀ j (hj : j + 1 < l.length), lt l[j] l[j + 1] = true := by
        intro j hj
        have := hg (j + 1) hj
        simp only [good, Bool.and_eq_true, Bool.or_eq_true, Nat.add_sub_cancel, rd_at hj, rd_at (show j < l.length by omega)] at this
        rcases this.1.2 with h' | h'
        · simp at h'
        · exact h'
      have all : ∀ d i (hi : i + d + 1 < l.length), lt l[i] l[i + d + 1] = true := by
        intro d
        induction d with
        | zero => intro i hi; exact step i hi
        | succ d ih => intro i hi; exact lt_trans (ih i (by omega)) (step (i + d + 1) (by omega))
      intro i j hi hj hij
      obtain ⟨d, rfl⟩ : ∃ d, j = i + d + 1 := ⟨j - i - 1, by omega⟩
      exact all d i hj
    · rw [List.pairwise_iff_getElem]
      intro i j hi hj hij
      have := hg j hj
      simp only [good, Bool.and_eq_true, rd_at hj, Bool.not_eq_true', List.any_eq_false] at this
      have h2 := this.2 l[i] (by rw [List.mem_iff_getElem]; exact ⟨i, by rw [List.length_take]; omega, by simp⟩)
      rw [same_comm]
      simpa using h2
  · rintro ⟨h1, h2, h3⟩ j _ hj
    have hj : j < l.length := by omega
    rw [List.pairwise_iff_getElem] at h2 h3
    simp only [good, Bool.and_eq_true, rd_at hj]
    refine ⟨⟨h1 _ (List.getElem_mem _), ?_⟩, ?_⟩
    · cases j with
      | zero => rfl
      | succ i =>
        have := h2 i (i + 1) (by omega) hj (by omega)
        simp [rd_at (show i < l.length by omega), this]
    · rw [Bool.not_eq_true', List.any_eq_false]
      intro x hx
      rw [List.mem_iff_getElem] at hx
      obtain ⟨i, hi, rfl⟩ := hx
      rw [List.length_take] at hi
      have := h3 i j (by omega) hj (by omega)
      rw [same_comm] at this
      simpa using this
/-! the index of a wait -/
theorem idx_or (p : S26 → Bool) : ∀ (l : List S26) (i : Nat), (idxFrom p l i = -1 ∧ l.any p = false) ∨ (∃ j : Nat, ∃ h : j < l.length, idxFrom p l i = ((i + j : Nat) : Int) ∧ p l[j] = true ∧ l.any p = true)
  | [], i => .inl ⟨rfl, rfl⟩
  | x :: r, i => by
    simp only [idxFrom, List.any_cons]
    by_cases hx : p x = true
    · exact .inr ⟨0, by simp, by simp [hx], by simpa using hx, by simp [hx]⟩
    · rw [if_neg hx]
      rw [Bool.not_eq_true] at hx
      rcases idx_or p r (i + 1) with ⟨h1, h2⟩ | ⟨j, h, h1, h2, h3⟩
      · exact .inl ⟨h1, by simp only [hx, h2, Bool.or_self]⟩
      · exact .inr ⟨j + 1, by simpa using h, by rw [h1]; congr 1; omega, by simpa using h2, by rw [h3, Bool.or_true]⟩
theorem same_trans {a b c : S26} (h : same a b = true) (h' : same b c = true) : same a c = true := by
  rw [same_iff] at *
  omega
/-- The index of a wait that is in a list in which each one is alone. -/
theorem idx_mem {l : List S26} (h3 : l.Pairwise (fun a b => same a b = false)) {o : S26} (j : Nat) (hj : j < l.length) (ho : same l[j] o = true) : idxFrom (isOffer o.f0 o.f1.f0 o.f1.f1) l 0 = (j : Int) := by
  rcases idx_or (isOffer o.f0 o.f1.f0 o.f1.f1) l 0 with ⟨h1, h2⟩ | ⟨i, hi, h1, h2, _⟩
  · rw [List.any_eq_false] at h2
    exact absurd ho (h2 _ (List.getElem_mem _))
  · rw [h1, Nat.zero_add]
    have h2' : same l[i] o = true := h2
    rw [List.pairwise_iff_getElem] at h3
    by_cases e : i = j
    · rw [e]
    · exfalso
      rcases Nat.lt_or_gt_of_ne e with h | h
      · have := h3 i j hi hj h
        rw [same_trans h2' (by rw [same_comm]; exact ho)] at this
        cases this
      · have := h3 j i hj hi h
        rw [same_trans ho (by rw [same_comm]; exact h2')] at this
        cases this
/-! taking one out -/
def del (l : List S26) (j : Nat) : List S26 := l.take j ++ l.drop (j + 1)
theorem del_eq (l : List S26) (j : Nat) : del l j = l.eraseIdx j := (List.eraseIdx_eq_take_drop_succ l j).symm
theorem del_len {l : List S26} {j : Nat} (h : j < l.length) : (del l j).length = l.length - 1 := by rw [del_eq, List.length_eraseIdx_of_lt h]
theorem del_V {l : List S26} (hV : V l) (j : Nat) : V (del l j) := by
  rw [del_eq]
  have hs := List.eraseIdx_sublist l j
  exact ⟨fun x hx => hV.1 x (hs.subset hx), hV.2.1.sublist hs, hV.2.2.sublist hs⟩
/-! places -/
def bd (a b : Int) (v : S26) : Bool := v.f1.f0 == a && v.f1.f1 == b
def below (o v : S26) : Bool := bd o.f1.f0 o.f1.f1 v && lt v o
theorem bd_iff {a b : Int} {v : S26} : bd a b v = true ↔ v.f1.f0 = a ∧ v.f1.f1 = b := by simp [bd]
def fl (a b : Int) : S26 → Bool → List S26 → S26 × Bool
  | w, k, [] => (w, k)
  | w, k, v :: r => if bd a b v = true ∧ (k = false ∨ lt v w = true) then fl a b v true r else fl a b w k r
theorem fl_true (a b : Int) : ∀ (l : List S26) (w : S26), (∀ x ∈ l, lt w x = true) → fl a b w true l = (w, true)
  | [], w, _ => rfl
  | v :: r, w, h => by
    rw [fl, if_neg, fl_true a b r w fun x hx => h x (List.mem_cons_of_mem _ hx)]
    rintro ⟨_, h' | h'⟩
    · cases h'
    · exact lt_asymm h' (h v List.mem_cons_self)
theorem fl_eq (a b : Int) (w : S26) : ∀ (l : List S26), l.Pairwise (fun a b => lt a b = true) → fl a b w false l = match l.filter (bd a b) with | [] => (w, false) | x :: _ => (x, true)
  | [], _ => rfl
  | v :: r, h => by
    rw [List.pairwise_cons] at h
    rw [fl, List.filter_cons]
    by_cases hv : bd a b v = true
    · rw [if_pos ⟨hv, .inl rfl⟩, if_pos hv, fl_true a b r v h.1]
    · rw [if_neg (fun h => hv h.1), if_neg hv, fl_eq a b w r h.2]
/-! serving -/
theorem count_lt : ∀ (l : List S26), l.Pairwise (fun a b => lt a b = true) → ∀ m (h : m < l.length), l.countP (fun v => lt v l[m]) = m
  | x :: r, hp, 0, h => by
    rw [List.pairwise_cons] at hp
    rw [List.countP_eq_zero]
    intro y hy
    simp only [List.getElem_cons_zero]
    intro hyx
    rcases List.mem_cons.1 hy with rfl | hy
    · rw [lt_irrefl] at hyx; cases hyx
    · exact lt_asymm hyx (hp.1 y hy)
  | x :: r, hp, m + 1, h => by
    rw [List.pairwise_cons] at hp
    have hm : m < r.length := by simpa using h
    simp only [List.getElem_cons_succ]
    rw [List.countP_cons, count_lt r hp.2 m hm, hp.1 _ (List.getElem_mem _)]
    simp
theorem below_filter (o : S26) (l : List S26) : l.countP (below o) = (l.filter (bd o.f1.f0 o.f1.f1)).countP (fun v => lt v o) := by
  rw [List.countP_filter]
  congr 1
  funext v
  simp only [below]
  rw [Bool.and_comm]
theorem bd_congr {a b : Int} {w : S26} (h : bd a b w = true) : bd w.f1.f0 w.f1.f1 = bd a b := by
  rw [bd_iff] at h
  rw [h.1, h.2]
theorem serve_place {l : List S26} (hV : V l) {a b : Int} {m : Nat} (h : m < (l.filter (bd a b)).length) : l.countP (below (l.filter (bd a b))[m]) = m := by
  have hb : bd a b (l.filter (bd a b))[m] = true := (List.mem_filter.1 (List.getElem_mem h)).2
  rw [below_filter, bd_congr hb]
  exact count_lt _ (hV.2.1.filter _) m h
theorem mem_idx {l : List S26} (hV : V l) {w : S26} (h : w ∈ l) : ∃ j : Nat, ∃ hj : j < l.length, l[j] = w ∧ idxFrom (isOffer w.f0 w.f1.f0 w.f1.f1) l 0 = (j : Int) := by
  obtain ⟨j, hj, rfl⟩ := List.getElem_of_mem h
  exact ⟨j, hj, rfl, idx_mem hV.2.2 j hj (same_self _)⟩
theorem serve_del {r : List S26} (hV : V r) {a b : Int} {w : S26} {T : List S26} (hf : r.filter (bd a b) = w :: T) {j : Nat} (hj : j < r.length) (e : r[j] = w) : (del r j).filter (bd a b) = T ∧ (del r j).filter (fun v => !bd a b v) = r.filter (fun v => !bd a b v) := by
  have hs : r = r.take j ++ w :: r.drop (j + 1) := by
    rw [← e, ← List.drop_eq_getElem_cons hj, List.take_append_drop]
  have hw : bd a b w = true := by
    have : w ∈ r.filter (bd a b) := by rw [hf]; exact List.mem_cons_self
    exact (List.mem_filter.1 this).2
  have hd : del r j = r.take j ++ r.drop (j + 1) := rfl
  rw [hd]
  clear hd e
  generalize r.take j = A' at hs ⊢
  generalize r.drop (j + 1) = C at hs ⊢
  have hs' := hs
  have hp := hV.2.1
  rw [hs', List.pairwise_append] at hp
  rw [hs', List.filter_append, List.filter_cons, if_pos hw] at hf
  have hn : A'.filter (bd a b) = [] := by
    cases hq : A'.filter (bd a b) with
    | nil => rfl
    | cons x t =>
      rw [hq, List.cons_append, List.cons.injEq] at hf
      have hx : x ∈ A'.filter (bd a b) := by rw [hq]; exact List.mem_cons_self
      have := hp.2.2 x (List.mem_filter.1 hx).1 w List.mem_cons_self
      rw [hf.1, lt_irrefl] at this
      cases this
  rw [hn, List.nil_append, List.cons.injEq] at hf
  refine ⟨by rw [List.filter_append, hn, hf.2, List.nil_append], ?_⟩
  rw [hs', List.filter_append, List.filter_append, List.filter_cons, if_neg (by rw [hw]; simp)]
end Z
end Go.Proofs.Ytjffojmpfdoodaa.X
-- What the functions of the package waiting and of its reference answer: both sides compute the same plain functions of lists.
namespace Go.Proofs.Ytjffojmpfdoodaa.X
open Go.RowKit Go.Proofs.YtjffojmpfdoodaaW.PrintWords
set_option linter.unusedVariables false
set_option linter.unusedSimpArgs false
namespace Z
theorem in_ (a b c : Int) : waiting_in.f a b c = some (decide (b ≤ a ∧ a ≤ c)) := by
  unfold waiting_in.f
  split
  · rw [Option.some.injEq, decide_eq_decide]
    omega
  · rw [Option.some.injEq]
    symm
    rw [decide_eq_false_iff_not]
    omega
theorem fits (o : S26) : waiting_valid.f o.f0 o.f1.f0 o.f1.f1 o.f2 o.f3 = some (ok o) := by
  unfold waiting_valid.f waiting_validBundle.f ok
  simp only [in_, Option.bind_some, decide_eq_true_eq]
  by_cases h0 : 0 ≤ o.f0 ∧ o.f0 ≤ 19999
  · rw [if_pos h0]
    by_cases h1 : 0 ≤ o.f1.f0 ∧ o.f1.f0 ≤ 3999
    · rw [if_pos h1]
      by_cases h2 : -1 ≤ o.f1.f1 ∧ o.f1.f1 ≤ 3999
      · rw [if_pos h2, Option.bind_some]
        by_cases h3 : o.f1.f1 = o.f1.f0
        · rw [if_neg (by simp [h3]), Option.some.injEq]
          symm
          rw [decide_eq_false_iff_not]
          omega
        · rw [if_pos (by simp [h3])]
          by_cases h4 : 0 ≤ o.f2 ∧ o.f2 ≤ 1073741824
          · rw [if_pos h4, Option.some.injEq, decide_eq_decide]
            omega
          · rw [if_neg h4, Option.some.injEq]
            symm
            rw [decide_eq_false_iff_not]
            omega
      · rw [if_neg h2, Option.bind_some, if_neg (by simp), Option.some.injEq]
        symm
        rw [decide_eq_false_iff_not]
        omega
    · rw [if_neg h1, Option.bind_some, if_neg (by simp), Option.some.injEq]
      symm
      rw [decide_eq_false_iff_not]
      omega
  · rw [if_neg h0, Option.some.injEq]
    symm
    rw [decide_eq_false_iff_not]
    omega
theorem check_loop (l : List S26) : ∀ n i, n + i = l.length → chkL l n i = some (err (chkB l n i))
  | 0, i, h => rfl
  | n + 1, i, h => by
    have hi : i < l.length := by omega
    have ih := check_loop l n (i + 1) (by omega)
    rw [chkL, fits, Option.bind_some, ih, chkB, good]
    have hc := (byl_lt (rd_T26 l ((i - 1 : Nat) : Int)) (rd_T26 l i)).2
    cases h1 : ok (rd_T26 l i) with
    | false => rfl
    | true =>
      rw [if_pos rfl]
      by_cases h2 : 0 < i ∧ lt (rd_T26 l ((i - 1 : Nat) : Int)) (rd_T26 l i) = false
      · rw [if_pos ⟨h2.1, hc.2 h2.2⟩, h2.2]
        have : (i == 0) = false := by simp; omega
        rw [this]
        rfl
      · rw [if_neg (fun h => h2 ⟨h.1, hc.1 h.2⟩)]
        have : (i == 0 || lt (rd_T26 l ((i - 1 : Nat) : Int)) (rd_T26 l i)) = true := by
          cases hq : lt (rd_T26 l ((i - 1 : Nat) : Int)) (rd_T26 l i) with
          | true => simp
          | false =>
            have : i = 0 := by
              rcases Nat.eq_zero_or_pos i with e | e
              · exact e
              · exact absurd ⟨e, hq⟩ h2
            simp [this]
        rw [this]
        cases h3 : (l.take i).any (same (rd_T26 l i)) with
        | true => rfl
        | false => rfl
theorem check (l : List S26) : waiting_Check.f l = some (err (chk l)) := check_loop l _ _ rfl
def lv (l : List S26) (s a b : Int) : List S26 × Int :=
  if chk l = true then (if idxFrom (isOffer s a b) l 0 < 0 then ([], 260) else (del l (idxFrom (isOffer s a b) l 0).toNat, 0)) else ([], 260)
theorem leave (l : List S26) (hl : l.length ≤ 1000) (s a b : Int) : waiting_Leave.f l s a b = some (lv l s a b) := by
  unfold waiting_Leave.f lv
  rw [check l, Option.bind_some]
  cases hc : chk l with
  | false => simp [err]
  | true =>
    rw [if_pos rfl, if_pos (show err true = 0 from rfl)]
    simp only [waiting_find.f, Option.bind_some]
    rcases idx_or (isOffer s a b) l 0 with ⟨h1, h2⟩ | ⟨j, hj, h1, h2, h3⟩
    · rw [h1]
      simp
    · rw [h1, Nat.zero_add]
      simp only [if_neg (show ¬((j : Nat) : Int) < 0 by omega), api_Wait_33.f, api_Wait_34.f]
      rw [if_pos (by omega), Option.bind_some, if_pos ⟨by omega, by omega, by unfold wrap64; omega⟩, Option.bind_some]
      rfl
def out5 (p : S26 × Bool) : Int × Int × Int × Int × Int × Bool := (p.1.f0, p.1.f1.f0, p.1.f1.f1, p.1.f2, p.1.f3, p.2)
theorem first_loop (l : List S26) (hl : l.length ≤ 1000) (a b : Int) : ∀ (n i k : Nat) (w : S26) (q : Bool), n + i = l.length → n + 1 ≤ k → waiting_First.l0 k q l (l.length : Int) (i : Int) a b w.f0 w.f1.f0 w.f1.f1 w.f2 w.f3 = some (out5 (fl a b w q (l.drop i)))
  | 0, i, k + 1, w, q, h, hk => by
    unfold waiting_First.l0
    rw [if_neg (by omega), List.drop_eq_nil_of_le (by omega)]
    rfl
  | n + 1, i, k + 1, w, q, h, hk => by
    have hi : i < l.length := by omega
    unfold waiting_First.l0
    obtain ⟨t, ht, ht1, ht2⟩ := compare_ l[i] w
    rw [if_pos (by omega), if_pos (by omega), if_pos (by omega), rd_at hi, w64 _ (by omega), List.drop_eq_getElem_cons hi, ht, Option.bind_some, fl, first_loop l hl a b n (i + 1) k l[i] true (by omega) (by omega), first_loop l hl a b n (i + 1) k w q (by omega) (by omega)]
    show (if bd a b l[i] = true then _ else _) = _
    by_cases hb : bd a b l[i] = true
    · rw [if_pos hb]
      cases q with
      | false => rw [if_neg (by simp), if_pos ⟨hb, .inl rfl⟩]
      | true =>
        rw [if_pos rfl]
        by_cases hlt : lt l[i] w = true
        · rw [if_pos (ht1.2 hlt), if_pos ⟨hb, .inr hlt⟩]
        · rw [if_neg (mt ht1.1 hlt), if_neg (by rintro ⟨_, h | h⟩; cases h; exact hlt h)]
    · rw [if_neg hb, if_neg (fun h => hb h.1)]
theorem first (l : List S26) (hl : l.length ≤ 1000) (a b : Int) (k : Nat) (hk : l.length + 1 ≤ k) : waiting_First.f k l a b = some (out5 (fl a b z26 false l)) := by
  have := first_loop l hl a b l.length 0 k z26 false (by omega) hk
  rw [List.drop_zero] at this
  exact this
def undr (a b : Int) (o v : S26) : Bool := bd a b v && lt v o
theorem place_loop (l : List S26) (hl : l.length ≤ 1000) (a b : Int) (at' : Nat) (hat : at' < l.length) : ∀ (n i k c : Nat), n + i = l.length → n + 1 ≤ k → c + n ≤ 2000 → waiting_Place.l0 k l (c : Int) (at' : Int) l (l.length : Int) (i : Int) a b = some (((c + (l.drop i).countP (undr a b l[at']) : Nat) : Int), true)
  | 0, i, k + 1, c, h, hk, hc => by
    unfold waiting_Place.l0
    rw [if_neg (by omega), List.drop_eq_nil_of_le (by omega)]
    rfl
  | n + 1, i, k + 1, c, h, hk, hc => by
    have hi : i < l.length := by omega
    unfold waiting_Place.l0
    obtain ⟨t, ht, ht1, ht2⟩ := compare_ l[i] l[at']
    rw [if_pos (by omega), if_pos (by omega), if_pos (by omega), rd_at hi, rd_at hat, w64 _ (by omega), w64 _ (by omega), List.drop_eq_getElem_cons hi, ht, Option.bind_some, List.countP_cons, place_loop l hl a b at' hat n (i + 1) k (c + 1) (by omega) (by omega) (by omega), place_loop l hl a b at' hat n (i + 1) k c (by omega) (by omega) (by omega), if_pos (show (0 : Int) ≤ (at' : Int) by omega), if_pos (show (at' : Int) < (l.length : Int) by omega)]
    show (if bd a b l[i] = true then _ else _) = _
    unfold undr
    by_cases hb : bd a b l[i] = true
    · by_cases hlt : lt l[i] l[at'] = true
      · rw [if_pos hb, if_pos (ht1.2 hlt), hb, hlt]
        simp
        omega
      · rw [if_pos hb, if_neg (mt ht1.1 hlt), hb]
        simp [hlt]
    · rw [if_neg hb]
      simp [hb]
def plc (l : List S26) (s a b : Int) : Int × Bool :=
  if idxFrom (isOffer s a b) l 0 < 0 then (0, false) else (((1 + l.countP (undr a b (rd_T26 l (idxFrom (isOffer s a b) l 0))) : Nat) : Int), true)
theorem place (l : List S26) (hl : l.length ≤ 1000) (s a b : Int) (k : Nat) (hk : l.length + 1 ≤ k) : waiting_Place.f k l s a b = some (plc l s a b) := by
  unfold waiting_Place.f plc
  simp only [waiting_find.f, Option.bind_some]
  rcases idx_or (isOffer s a b) l 0 with ⟨h1, h2⟩ | ⟨j, hj, h1, h2, h3⟩
  · rw [h1]
    rfl
  · rw [h1, Nat.zero_add, if_neg (by omega), if_neg (by omega), rd_at hj]
    have := place_loop l hl a b j hj l.length 0 k 1 (by omega) hk (by omega)
    simpa using this
/-- The place of a wait that is in a valid list. -/
theorem plc_mem {l : List S26} (hV : V l) {o : S26} (h : o ∈ l) : plc l o.f0 o.f1.f0 o.f1.f1 = (((1 + l.countP (below o) : Nat) : Int), true) := by
  obtain ⟨j, hj, e, hi⟩ := mem_idx hV h
  unfold plc
  rw [hi, if_neg (by omega), rd_at hj, e]
  rfl

theorem few (l : List S26) : sizarref26_Few.f l = some (decide (l.length ≤ 40)) := by
  unfold sizarref26_Few.f
  congr 1
  rw [decide_eq_decide]
  omega
theorem sane : sizarlaw26_sane.f 300 = some true := by decide +kernel
end Z
end Go.Proofs.Ytjffojmpfdoodaa.X
-- The laws of the package waiting, in plain lists.
namespace Go.Proofs.Ytjffojmpfdoodaa.X
open Go.RowKit Go.Proofs.YtjffojmpfdoodaaW.PrintWords
set_option linter.unusedVariables false
set_option linter.unusedSimpArgs false
namespace Z
theorem lv_mem {l : List S26} (hV : V l) {j : Nat} (hj : j < l.length) : lv l l[j].f0 l[j].f1.f0 l[j].f1.f1 = (del l j, 0) := by
  unfold lv
  rw [if_pos (chk_V.2 hV), idx_mem hV.2.2 j hj (same_self _), if_neg (by omega), Int.toNat_natCast]
theorem errz {b : Bool} : err b = 0 ↔ b = true := by cases b <;> simp [err]
end Z
open Z
theorem Z.serve_end (l : List S26) (hl : l.length ≤ 40) (a b : Int) (r : List S26) (hr : r = l.filter (fun v => !bd a b v)) : ∀ (n i k : Nat), n + i = l.length → n + 1 ≤ k → sizarlaw26_WaitingServed.l1 k r (((l.take i).filter (fun v => !bd a b v)).length : Int) l (l.length : Int) (i : Int) a b = some true
  | 0, i, k + 1, h, hk => by
    simp only [sizarlaw26_WaitingServed.l1]
    rw [if_neg (by omega), List.take_of_length_le (by omega), hr]
    simp
  | n + 1, i, k + 1, h, hk => by
    have hi : i < l.length := by omega
    have ih := serve_end l hl a b r hr n (i + 1) k (by omega) (by omega)
    have ht : l.take (i + 1) = l.take i ++ [l[i]] := List.take_succ_eq_append_getElem hi
    have hrl := List.length_filter_le (fun v => !bd a b v) l
    rw [← hr] at hrl
    simp only [sizarlaw26_WaitingServed.l1]
    rw [if_pos (by omega), if_pos (by omega), if_pos (by omega), rd_at hi, w64 i (by omega)]
    show (if bd a b l[i] = true then _ else _) = _
    by_cases hb : bd a b l[i] = true
    · rw [ht, List.filter_append, List.filter_cons_of_neg (by simp [hb]), List.filter_nil, List.append_nil] at ih
      rw [if_pos hb]
      exact ih
    · have hs : r = (l.take i).filter (fun v => !bd a b v) ++ l[i] :: (l.drop (i + 1)).filter (fun v => !bd a b v) := by
        rw [hr]
        conv => lhs; rw [← List.take_append_drop i l, List.filter_append, List.drop_eq_getElem_cons hi, List.filter_cons_of_pos (by simpa using hb)]
      rw [ht, List.filter_append, List.filter_cons_of_pos (by simpa using hb), List.filter_nil, List.length_append] at ih
      have hlt : ((l.take i).filter (fun v => !bd a b v)).length < r.length := by
        conv => rhs; rw [hs]
        simp
      have hg : r[((l.take i).filter (fun v => !bd a b v)).length] = l[i] := by
        simp only [hs]
        rw [List.getElem_append_right (Nat.le_refl _)]
        simp
      rw [if_neg hb, if_neg (by omega), if_pos (by omega), if_pos (by omega), rd_at hlt, hg, if_neg (by simp), w64 _ (by omega)]
      exact ih
theorem Z.serve_loop (l : List S26) (hl : l.length ≤ 40) (hV : V l) (a b : Int) : ∀ (n m k : Nat) (r : List S26), V r → r.length ≤ 40 → r.filter (bd a b) = (l.filter (bd a b)).drop m → r.filter (fun v => !bd a b v) = l.filter (fun v => !bd a b v) → m + n = (l.filter (bd a b)).length → n + 100 ≤ k →
    sizarlaw26_WaitingServed.l0 k l r ((m + 1 : Nat) : Int) a b = some true
  | 0, m, k + 1, r, hVr, hrl, hf, hg, hm, hk => by
    have e : r.filter (bd a b) = [] := by rw [hf, List.drop_of_length_le (by omega)]
    have hfl : waiting_First.f k r a b = some (z26.f0, z26.f1.f0, z26.f1.f1, z26.f2, z26.f3, false) := by
      rw [first r (by omega) _ _ _ (by omega), fl_eq a b z26 r hVr.2.1, e]
      rfl
    simp only [sizarlaw26_WaitingServed.l0]
    rw [hfl, Option.bind_some]
    show (if false = true then _ else _) = _
    rw [if_neg (by simp)]
    have hr : r = l.filter (fun v => !bd a b v) := by
      rw [← hg]
      symm
      rw [List.filter_eq_self]
      intro x hx
      rw [List.filter_eq_nil_iff] at e
      simpa using e x hx
    have := serve_end l hl a b r hr l.length 0 k (by omega) (by omega)
    simpa using this
  | n + 1, m, k + 1, r, hVr, hrl, hf, hg, hm, hk => by
    have hml : m < (l.filter (bd a b)).length := by omega
    have hmle := List.length_filter_le (bd a b) l
    rw [List.drop_eq_getElem_cons hml] at hf
    have hpl := serve_place hV hml
    generalize hw : (l.filter (bd a b))[m] = w at hf hpl
    have hwl : w ∈ l.filter (bd a b) := by rw [← hw]; exact List.getElem_mem _
    have hwb := (List.mem_filter.1 hwl).2
    have hwb' := bd_iff.1 hwb
    have hwr : w ∈ r := by
      have : w ∈ r.filter (bd a b) := by rw [hf]; exact List.mem_cons_self
      exact (List.mem_filter.1 this).1
    obtain ⟨j, hj, hje, _⟩ := mem_idx hVr hwr
    have hd := serve_del hVr hf hj hje
    have hplc : plc l w.f0 a b = (((m + 1 : Nat) : Int), true) := by
      rw [← hwb'.1, ← hwb'.2, plc_mem hV (List.mem_filter.1 hwl).1, hpl, Nat.add_comm]
    have hlv : lv r w.f0 a b = (del r j, 0) := by
      rw [← hwb'.1, ← hwb'.2, ← hje, lv_mem hVr hj]
    have hdl := del_len hj
    have hfl : waiting_First.f k r a b = some (w.f0, w.f1.f0, w.f1.f1, w.f2, w.f3, true) := by
      rw [first r (by omega) _ _ _ (by omega), fl_eq a b z26 r hVr.2.1, hf]
      rfl
    have hcond : ¬ ((!(w.f1.f0 == a) || (!(w.f1.f1 == b))) = true) := by simp [hwb'.1, hwb'.2]
    simp only [sizarlaw26_WaitingServed.l0]
    rw [hfl, Option.bind_some]
    have hw1 : wrap64 ((r.length : Int) - 1) = ((r.length - 1 : Nat) : Int) := by unfold wrap64; omega
    rw [if_pos rfl, place l (by omega) _ _ _ _ (by omega), hplc, leave r (by omega), hlv, Option.bind_some, Option.bind_some, if_pos rfl, if_pos rfl, if_neg hcond, if_pos rfl, hw1, if_pos (by rw [hdl]), w64 _ (by omega)]
    exact serve_loop l hl hV a b n (m + 1) k (del r j) (del_V hVr j) (by omega) hd.1 (hd.2.trans hg) (by omega) (by omega)
theorem Z.serve_j (l : List S26) (hl : l.length ≤ 40) (a b : Int) (q : Bool) (hq : q = false → V l) : sizarlaw26_WaitingServed.j0 300 l q a b = some true := by
  cases q with
  | true => simp [sizarlaw26_WaitingServed.j0]
  | false =>
    have := List.length_filter_le (bd a b) l
    simp only [sizarlaw26_WaitingServed.j0]
    rw [if_neg (by simp)]
    exact serve_loop l hl (hq rfl) a b (l.filter (bd a b)).length 0 299 l (hq rfl) hl rfl rfl (by omega) (by omega)
theorem Pu.WaitingServed (l0 : List S26) (z : S24) : ∃ k, sizarlaw26_WaitingServed.f k l0 z.f0 z.f1 = some true := by
  refine ⟨300, ?_⟩
  unfold sizarlaw26_WaitingServed.f
  rw [sane, Option.bind_some, if_pos rfl, few, Option.bind_some]
  by_cases h : l0.length ≤ 40
  · rw [if_pos (by simpa using h), check, Option.bind_some]
    refine serve_j l0 h _ _ _ fun hq => ?_
    rw [bne_eq_false_iff_eq] at hq
    exact chk_V.1 (errz.1 hq)
  · rw [if_neg (by simpa using h)]
    simp [sizarlaw26_WaitingServed.j0]
end Go.Proofs.Ytjffojmpfdoodaa.X
-- The row of the law WaitingServed, out of its pure proof and its walk (written by wip/mkrow.py).
namespace Go.Proofs.Ytjffojmpfdoodaa.waitingServed
open Go.ChangeShapes Go.WideShapes Go.ChangeAt Go.RowKit Go.Proofs.YtjffojmpfdoodaaW.PrintWords Go.Proofs.YtjffojmpfdoodaaW.Opn Go.Proofs.Ytjffojmpfdoodaa.X
open Go.ChangeMaps (open_string shut_string)
set_option linter.unusedVariables false
theorem own : ownKnob Try.prog.godebug = none := by kernel_rfl
theorem laidOut : laidOutB Try.prog = true := by kernel_rfl
theorem k24_heap : Kd.Heap k24 := Kd.heap_iso _ (Kd.heap_pair (Kd.heap_int .i64) (Kd.heap_int .i64))
theorem k26_heap : Kd.Heap k26 := Kd.heap_iso _ (Kd.heap_pair (Kd.heap_int .i64) (Kd.heap_pair k24_heap (Kd.heap_pair (Kd.heap_int .i64) (Kd.heap_int .i64))))
set_option maxRecDepth 100000 in
theorem lifted (os : Os) (started : os.Started) (H : Type) (enc : TypeId × Value → H) :
    ReturnsInHanded {} Try.checked os 4 .any (Rows.waitingServedSpec.pre6 enc Try.prog Try.f4 Rows.waitingServedRow.domain false) (Rows.waitingServedSpec.post enc Try.prog Try.f4 false true false false) := by
  refine returnsInHanded_of_change_sized (C := Try.checked) own started (by kernel_rfl) Try.func4
    (ChangeSpec.witness6 (enc := enc) (C := Try.checked) false ⟨#[], #[.slice none 0 0, .agg #[.int .i64 0,.int .i64 0]], []⟩ 8 (by kernel_rfl) (by kernel_rfl) (by kernel_rfl) (by kernel_rfl)) ?_
  intro W base args ds gs before hval0 hW hcnd hsz0 _
  have hval : ∀ (j : Nat) t v, Try.f4.params[j]? = some t → args[j]? = some v → Value.okWide Try.prog W .any base t v := hval0
  have hW' := hW
  obtain ⟨p, q, hA0, hV, rfl, hfz, hnd⟩ := hW
  have hA : DataW.TrodAll enc Try.prog W 0 (fun _ => true) true Try.f4.params.toList args.toList ds p := hA0
  rw [Try.params4] at hA hval
  obtain ⟨v0, vs0, d0, ds0, p0, q0, hargs, rfl, rfl, h0, r0⟩ := trodAll_cons hA
  obtain ⟨v1, vs1, d1, ds1, p1, q1, rfl, rfl, rfl, h1, r1⟩ := trodAll_cons r0
  obtain ⟨rfl, rfl, rfl⟩ := trodAll_nil r1
  obtain rfl : args = #[v0, v1] := by cases args; simp_all
  obtain ⟨rfl, rfl⟩ := trodVars_none hV
  have k0 := h0
  have lt0 : ∀ x ∈ p0, x.block < W.heap.size := by obtain ⟨m, hm⟩ := k0; exact DataW.trod_lt m _ _ _ hm
  obtain ⟨A0, c0, l0, rfl, hc0, hr0, ho0⟩ := Opens.arg_slice op26 Try.underlying22 (hval 0 22 v0 rfl rfl) h0
  have k1 := h1
  have lt1 : ∀ x ∈ p1, x.block < W.heap.size := by obtain ⟨m, hm⟩ := k1; exact DataW.trod_lt m _ _ _ hm
  obtain ⟨y1, cs1, rfl, hk1, ho1⟩ := Opens.arg_struct op24 Try.underlying24 (hval 1 24 v1 rfl rfl) h1
  obtain rfl := k24_open hk1
  clear hA0 hval0 hsz0
  obtain ⟨k, hk_⟩ := Pu.WaitingServed l0 y1
  refine (sizarlaw26_WaitingServed.calls k (fun k_ => k_ < W.heap.size) A0 c0 l0 y1.f0 y1.f1 true W (Kd.V_mk hc0 (Kd.C_F k26_heap hr0)) hk_).mono fun e W' ⟨he, bel0⟩ => ?_
  have bel : Below W.heap.size W W' := bel0
  subst he
  exact ⟨_, rfl, _, _, _, [], _, [], hW', trodAll_mk1 (shut_bool Try.underlying4 _), (trodAll_cons_mk (Below.trod laidOut (by kernel_rfl) (of_decide_eq_true (by kernel_rfl)) k0 bel lt0) (trodAll_cons_mk (Below.trod laidOut (by kernel_rfl) (of_decide_eq_true (by kernel_rfl)) k1 bel lt1) trodAll_mk0)), rfl, bel.frame _, fun h => by cases h⟩
theorem over : Rows.waitingServedRow.holds Try.pinned (OpenSpec.ofChange Rows.waitingServedSpec) :=
  OpenClaim.holds_of_wide 4 Try.f4 rfl rfl rfl rfl rfl rfl rfl ⟨rfl, rfl, rfl, rfl, rfl⟩ rfl rfl rfl rfl rfl (by kernel_rfl) Try.func4 (by kernel_rfl)
    (of_decide_eq_true (by kernel_rfl)) (by unfold Func.isWrapper; first | (rw [if_pos (by decide +kernel)]; kernel_rfl) | (rw [if_neg (by decide +kernel)]; exact ⟨rfl, rfl⟩))
    (fun os started H enc _ => lifted os started H enc)
end Go.Proofs.Ytjffojmpfdoodaa.waitingServed
namespace Go.Proofs.Ytjffojmpfdoodaa
/-- The row, under a short name, for the claim. -/
theorem waitingServed_holds : Rows.WaitingServedSaid := waitingServed.over
#print axioms waitingServed_holds
end Go.Proofs.Ytjffojmpfdoodaa
