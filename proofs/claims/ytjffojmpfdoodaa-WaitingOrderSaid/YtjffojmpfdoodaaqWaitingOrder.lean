/- The law WaitingOrder is proved, whatever its input: no condition. -/
import Derived.Test.Ytjffojmpfdoodaaqb5
import Derived.Test.Ytjffojmpfdoodaaqrx46
import Derived.ChangeOld
import Derived.OpenShut
import Derived.ProofKit
import Derived.ShutString
import Derived.SizedLaws
import Derived.Test.YtjffojmpfdoodaaRows
-- What the functions of the package waiting and of its reference compute, in plain lists.
namespace Go.Proofs.Ytjffojmpfdoodaa.X
open Go.RowKit Go.Proofs.YtjffojmpfdoodaaW.PrintWords
set_option linter.unusedVariables false
set_option linter.unusedSimpArgs false
deriving instance DecidableEq for S24
deriving instance DecidableEq for S26
namespace Z
def ok (o : S26) : Bool := decide (0 ≤ o.f0 ∧ o.f0 < 20000 ∧ 0 ≤ o.f1.f0 ∧ o.f1.f0 < 4000 ∧ -1 ≤ o.f1.f1 ∧ o.f1.f1 < 4000 ∧ o.f1.f1 ≠ o.f1.f0 ∧ 0 ≤ o.f2 ∧ o.f2 ≤ 1073741824 ∧ 0 ≤ o.f3 ∧ o.f3 ≤ 1048576)
def lt (a b : S26) : Bool := decide (a.f1.f0 < b.f1.f0 ∨ a.f1.f0 = b.f1.f0 ∧ (a.f1.f1 < b.f1.f1 ∨ a.f1.f1 = b.f1.f1 ∧ (a.f2 < b.f2 ∨ a.f2 = b.f2 ∧ (a.f3 < b.f3 ∨ a.f3 = b.f3 ∧ a.f0 < b.f0))))
theorem same_iff {a b : S26} : same a b = true ↔ a.f0 = b.f0 ∧ a.f1.f0 = b.f1.f0 ∧ a.f1.f1 = b.f1.f1 := by simp [same]
theorem same_comm (a b : S26) : same a b = same b a := by
  rw [Bool.eq_iff_iff, same_iff, same_iff]
  constructor <;> (rintro ⟨h1, h2, h3⟩; exact ⟨h1.symm, h2.symm, h3.symm⟩)
theorem same_self (a : S26) : same a a = true := by simp [same]
theorem S26_ext {a b : S26} (h0 : a.f0 = b.f0) (h1 : a.f1.f0 = b.f1.f0) (h2 : a.f1.f1 = b.f1.f1) (h3 : a.f2 = b.f2) (h4 : a.f3 = b.f3) : a = b := by
  obtain ⟨a0, ⟨a1, a2⟩, a3, a4⟩ := a
  obtain ⟨b0, ⟨b1, b2⟩, b3, b4⟩ := b
  simp_all
theorem lt_trans {a b c : S26} (h : lt a b = true) (h' : lt b c = true) : lt a c = true := by
  simp only [lt, decide_eq_true_eq] at *
  omega
theorem lt_irrefl (a : S26) : lt a a = false := by
  simp [lt]
theorem lt_tri (a b : S26) : lt a b = true ∨ a = b ∨ lt b a = true := by
  by_cases h : a = b
  · exact .inr (.inl h)
  · by_cases h1 : lt a b = true
    · exact .inl h1
    · right; right
      by_cases e0 : a.f0 = b.f0 ∧ a.f1.f0 = b.f1.f0 ∧ a.f1.f1 = b.f1.f1 ∧ a.f2 = b.f2 ∧ a.f3 = b.f3
      · exact absurd (S26_ext e0.1 e0.2.1 e0.2.2.1 e0.2.2.2.1 e0.2.2.2.2) h
      · simp only [lt, decide_eq_true_eq] at *
        omega
theorem lt_asymm {a b : S26} (h : lt a b = true) (h' : lt b a = true) : False := by
  have := lt_trans h h'
  rw [lt_irrefl] at this
  cases this
theorem w64 (i : Nat) (h : i < 1000000) : wrap64 ((i : Int) + 1) = ((i + 1 : Nat) : Int) := by unfold wrap64; omega
theorem rd_at {l : List S26} {i : Nat} (h : i < l.length) : rd_T26 l (i : Int) = l[i] := by simp [rd_T26, List.getD_eq_getElem?_getD, List.getElem?_eq_getElem h]
theorem byl_lt (a b : S26) : (byl [a.f1.f0, a.f1.f1, a.f2, a.f3, a.f0] [b.f1.f0, b.f1.f1, b.f2, b.f3, b.f0] < 0 ↔ lt a b = true) ∧ (0 ≤ byl [a.f1.f0, a.f1.f1, a.f2, a.f3, a.f0] [b.f1.f0, b.f1.f1, b.f2, b.f3, b.f0] ↔ lt a b = false) := by
  have h : byl [a.f1.f0, a.f1.f1, a.f2, a.f3, a.f0] [b.f1.f0, b.f1.f1, b.f2, b.f3, b.f0] < 0 ↔ lt a b = true := by
    simp only [byl, cmpI, lt, decide_eq_true_eq]
    repeat' split
    all_goals omega
  refine ⟨h, ?_⟩
  rw [Bool.eq_false_iff, Ne, ← h]
  omega
theorem compare_ (a b : S26) : ∃ t, waiting_compare.f a.f0 a.f1.f0 a.f1.f1 a.f2 a.f3 b.f0 b.f1.f0 b.f1.f1 b.f2 b.f3 = some t ∧ (t < 0 ↔ lt a b = true) ∧ (0 ≤ t ↔ lt a b = false) := ⟨_, rfl, byl_lt a b⟩
def err (b : Bool) : Int := if b then 0 else 260
end Z
end Go.Proofs.Ytjffojmpfdoodaa.X
-- The theory of waitlists: lists in strict order, each student once a bundle.
namespace Go.Proofs.Ytjffojmpfdoodaa.X
open Go.RowKit Go.Proofs.YtjffojmpfdoodaaW.PrintWords
set_option linter.unusedVariables false
set_option linter.unusedSimpArgs false
namespace Z
def V (l : List S26) : Prop := (∀ x ∈ l, ok x = true) ∧ l.Pairwise (fun a b => lt a b = true) ∧ l.Pairwise (fun a b => same a b = false)
def good (l : List S26) (i : Nat) : Bool := ok (rd_T26 l i) && (i == 0 || lt (rd_T26 l ((i - 1 : Nat) : Int)) (rd_T26 l i)) && !(l.take i).any (same (rd_T26 l i))
def chkB (l : List S26) : Nat → Nat → Bool
  | 0, _ => true
  | n + 1, i => good l i && chkB l n (i + 1)
def chk (l : List S26) : Bool := chkB l l.length 0
theorem chkB_iff (l : List S26) : ∀ n i, chkB l n i = true ↔ ∀ j, i ≤ j → j < i + n → good l j = true
  | 0, i => by simp only [chkB, true_iff]; intro j h1 h2; omega
  | n + 1, i => by
    rw [chkB, Bool.and_eq_true, chkB_iff l n (i + 1)]
    constructor
    · rintro ⟨h0, h⟩ j h1 h2
      by_cases e : j = i
      · rw [e]; exact h0
      · exact h j (by omega) (by omega)
    · intro h
      exact ⟨h i (Nat.le_refl _) (by omega), fun j h1 h2 => h j (by omega) (by omega)⟩
theorem chk_V {l : List S26} : chk l = true ↔ V l := by
  unfold chk
  rw [chkB_iff]
  constructor
  · intro h
    have hg : ∀ j (hj : j < l.length), good l j = true := fun j hj => h j (Nat.zero_le _) (by omega)
    refine ⟨fun x hx => ?_, ?_, ?_⟩
    · obtain ⟨j, hj, rfl⟩ := List.getElem_of_mem hx
      have := hg j hj
      simp only [good, Bool.and_eq_true, rd_at hj] at this
      exact this.1.1
    · rw [List.pairwise_iff_getElem]
      have step : ∀ j (hj : j + 1 < l.length), lt l[j] l[j + 1] = true := by
        intro j hj
        have := hg (j + 1) hj
        simp only [good, Bool.and_eq_true, Bool.or_eq_true, Nat.add_sub_cancel, rd_at hj, rd_at (show j < l.length by omega)] at this
        rcases this.1.2 with h' | h'
        · simp at h'
        · exact h'
      have all : ∀ d i (hi : i + d + 1 < l.length), lt l[i] l[i + d + 1] = true := by
        intro d
        induction d with
        | zero => intro i hi; exact step i hi
        | succ d ih => intro i hi; exact lt_trans (ih i (by omega)) (step (i + d + 1) (by omega))
      intro i j hi hj hij
      obtain ⟨d, rfl⟩ : ∃ d, j = i + d + 1 := ⟨j - i - 1, by omega⟩
      exact all d i hj
    · rw [List.pairwise_iff_getElem]
      intro i j hi hj hij
      have := hg j hj
      simp only [good, Bool.and_eq_true, rd_at hj, Bool.not_eq_true', List.any_eq_false] at this
      have h2 := this.2 l[i] (by rw [List.mem_iff_getElem]; exact ⟨i, by rw [List.length_take]; omega, by simp⟩)
      rw [same_comm]
      simpa using h2
  · rintro ⟨h1, h2, h3⟩ j _ hj
    have hj : j < l.length := by omega
    rw [List.pairwise_iff_getElem] at h2 h3
    simp only [good, Bool.and_eq_true, rd_at hj]
    refine ⟨⟨h1 _ (List.getElem_mem _), ?_⟩, ?_⟩
    · cases j with
      | zero => rfl
      | succ i =>
        have := h2 i (i + 1) (by omega) hj (by omega)
        simp [rd_at (show i < l.length by omega), this]
    · rw [Bool.not_eq_true', List.any_eq_false]
      intro x hx
      rw [List.mem_iff_getElem] at hx
      obtain ⟨i, hi, rfl⟩ := hx
      rw [List.length_take] at hi
      have := h3 i j (by omega) hj (by omega)
      rw [same_comm] at this
      simpa using this
/-! putting one in -/
def pos : List S26 → S26 → Nat
  | [], _ => 0
  | x :: r, o => if lt x o then pos r o + 1 else 0
def ins : List S26 → S26 → List S26
  | [], o => [o]
  | x :: r, o => if lt x o then x :: ins r o else o :: x :: r
theorem pos_le (o : S26) : ∀ l, pos l o ≤ l.length
  | [] => Nat.le_refl _
  | x :: r => by
    have := pos_le o r
    simp only [pos, List.length_cons]
    split <;> omega
theorem ins_eq (o : S26) : ∀ l, l.take (pos l o) ++ o :: l.drop (pos l o) = ins l o
  | [] => rfl
  | x :: r => by
    simp only [pos, ins]
    split
    · simp [ins_eq o r]
    · simp
theorem pos_lt (o : S26) : ∀ (l : List S26), l.Pairwise (fun a b => lt a b = true) → ∀ m (h : m < l.length), lt l[m] o = decide (m < pos l o)
  | x :: r, hp, 0, h => by
    simp only [pos, List.getElem_cons_zero]
    split <;> simp_all
  | x :: r, hp, m + 1, h => by
    rw [List.pairwise_cons] at hp
    simp only [List.getElem_cons_succ, pos]
    have ih := pos_lt o r hp.2 m (by simpa using h)
    split
    · rw [ih]
      simp
    · rename_i hx
      simp only [Nat.not_lt_zero, decide_false]
      rw [Bool.eq_false_iff]
      intro hm
      exact hx (lt_trans (hp.1 _ (List.getElem_mem _)) hm)
theorem ins_len (o : S26) : ∀ l, (ins l o).length = l.length + 1
  | [] => rfl
  | x :: r => by
    simp only [ins]
    split <;> simp [ins_len o r]
theorem ins_perm (o : S26) : ∀ l, (ins l o).Perm (o :: l)
  | [] => List.Perm.refl _
  | x :: r => by
    simp only [ins]
    split
    · exact ((ins_perm o r).cons x).trans (List.Perm.swap o x r)
    · exact List.Perm.refl _
theorem mem_ins {o x : S26} {l : List S26} : x ∈ ins l o ↔ x = o ∨ x ∈ l := by rw [(ins_perm o l).mem_iff, List.mem_cons]
def met (l : List S26) (o : S26) : Bool := l.any (fun x => same x o)
theorem met_no {l : List S26} {o : S26} : met l o = false ↔ ∀ x ∈ l, same x o = false := by simp [met]
theorem ins_sorted (o : S26) : ∀ (l : List S26), l.Pairwise (fun a b => lt a b = true) → (∀ x ∈ l, x ≠ o) → (ins l o).Pairwise (fun a b => lt a b = true)
  | [], _, _ => by simp [ins]
  | x :: r, hp, hn => by
    rw [List.pairwise_cons] at hp
    simp only [ins]
    split
    · rename_i hx
      rw [List.pairwise_cons]
      refine ⟨fun y hy => ?_, ins_sorted o r hp.2 fun y hy => hn y (List.mem_cons_of_mem _ hy)⟩
      rcases mem_ins.1 hy with rfl | h
      · exact hx
      · exact hp.1 y h
    · rename_i hx
      have hox : lt o x = true := by
        rcases lt_tri x o with h | h | h
        · exact absurd h hx
        · exact absurd h (hn x List.mem_cons_self)
        · exact h
      rw [List.pairwise_cons, List.pairwise_cons]
      refine ⟨fun y hy => ?_, hp⟩
      rcases List.mem_cons.1 hy with rfl | h
      · exact hox
      · exact lt_trans hox (hp.1 y h)
theorem ins_V {l : List S26} {o : S26} (hV : V l) (ho : ok o = true) (hm : met l o = false) : V (ins l o) := by
  rw [met_no] at hm
  refine ⟨fun x hx => ?_, ?_, ?_⟩
  · rcases mem_ins.1 hx with rfl | h
    · exact ho
    · exact hV.1 x h
  · refine ins_sorted o l hV.2.1 fun x hx e => ?_
    have := hm x hx
    rw [e, same_self] at this
    cases this
  · refine List.Perm.pairwise (ins_perm o l).symm ?_ fun {a b} h => by rw [same_comm]; exact h
    rw [List.pairwise_cons]
    exact ⟨fun y hy => by rw [same_comm]; exact hm y hy, hV.2.2⟩
theorem sorted_ext {l m : List S26} (hl : l.Pairwise (fun a b => lt a b = true)) (hm : m.Pairwise (fun a b => lt a b = true)) (h : l.Perm m) : l = m :=
  List.Perm.eq_of_pairwise (le := fun a b => lt a b = true) (fun a b _ _ h1 h2 => (lt_asymm h1 h2).elim) hl hm h

/-! the index of a wait -/
theorem idx_or (p : S26 → Bool) : ∀ (l : List S26) (i : Nat), (idxFrom p l i = -1 ∧ l.any p = false) ∨ (∃ j : Nat, ∃ h : j < l.length, idxFrom p l i = ((i + j : Nat) : Int) ∧ p l[j] = true ∧ l.any p = true)
  | [], i => .inl ⟨rfl, rfl⟩
  | x :: r, i => by
    simp only [idxFrom, List.any_cons]
    by_cases hx : p x = true
    · exact .inr ⟨0, by simp, by simp [hx], by simpa using hx, by simp [hx]⟩
    · rw [if_neg hx]
      rw [Bool.not_eq_true] at hx
      rcases idx_or p r (i + 1) with ⟨h1, h2⟩ | ⟨j, h, h1, h2, h3⟩
      · exact .inl ⟨h1, by simp only [hx, h2, Bool.or_self]⟩
      · exact .inr ⟨j + 1, by simpa using h, by rw [h1]; congr 1; omega, by simpa using h2, by rw [h3, Bool.or_true]⟩
/-! places -/
def bd (a b : Int) (v : S26) : Bool := v.f1.f0 == a && v.f1.f1 == b
def fl (a b : Int) : S26 → Bool → List S26 → S26 × Bool
  | w, k, [] => (w, k)
  | w, k, v :: r => if bd a b v = true ∧ (k = false ∨ lt v w = true) then fl a b v true r else fl a b w k r
end Z
end Go.Proofs.Ytjffojmpfdoodaa.X
-- What the functions of the package waiting and of its reference answer: both sides compute the same plain functions of lists.
namespace Go.Proofs.Ytjffojmpfdoodaa.X
open Go.RowKit Go.Proofs.YtjffojmpfdoodaaW.PrintWords
set_option linter.unusedVariables false
set_option linter.unusedSimpArgs false
namespace Z
theorem in_ (a b c : Int) : waiting_in.f a b c = some (decide (b ≤ a ∧ a ≤ c)) := by
  unfold waiting_in.f
  split
  · rw [Option.some.injEq, decide_eq_decide]
    omega
  · rw [Option.some.injEq]
    symm
    rw [decide_eq_false_iff_not]
    omega
theorem fits (o : S26) : waiting_valid.f o.f0 o.f1.f0 o.f1.f1 o.f2 o.f3 = some (ok o) := by
  unfold waiting_valid.f waiting_validBundle.f ok
  simp only [in_, Option.bind_some, decide_eq_true_eq]
  by_cases h0 : 0 ≤ o.f0 ∧ o.f0 ≤ 19999
  · rw [if_pos h0]
    by_cases h1 : 0 ≤ o.f1.f0 ∧ o.f1.f0 ≤ 3999
    · rw [if_pos h1]
      by_cases h2 : -1 ≤ o.f1.f1 ∧ o.f1.f1 ≤ 3999
      · rw [if_pos h2, Option.bind_some]
        by_cases h3 : o.f1.f1 = o.f1.f0
        · rw [if_neg (by simp [h3]), Option.some.injEq]
          symm
          rw [decide_eq_false_iff_not]
          omega
        · rw [if_pos (by simp [h3])]
          by_cases h4 : 0 ≤ o.f2 ∧ o.f2 ≤ 1073741824
          · rw [if_pos h4, Option.some.injEq, decide_eq_decide]
            omega
          · rw [if_neg h4, Option.some.injEq]
            symm
            rw [decide_eq_false_iff_not]
            omega
      · rw [if_neg h2, Option.bind_some, if_neg (by simp), Option.some.injEq]
        symm
        rw [decide_eq_false_iff_not]
        omega
    · rw [if_neg h1, Option.bind_some, if_neg (by simp), Option.some.injEq]
      symm
      rw [decide_eq_false_iff_not]
      omega
  · rw [if_neg h0, Option.some.injEq]
    symm
    rw [decide_eq_false_iff_not]
    omega
theorem check_loop (l : List S26) : ∀ n i, n + i = l.length → chkL l n i = some (err (chkB l n i))
  | 0, i, h => rfl
  | n + 1, i, h => by
    have hi : i < l.length := by omega
    have ih := check_loop l n (i + 1) (by omega)
    rw [chkL, fits, Option.bind_some, ih, chkB, good]
    have hc := (byl_lt (rd_T26 l ((i - 1 : Nat) : Int)) (rd_T26 l i)).2
    cases h1 : ok (rd_T26 l i) with
    | false => rfl
    | true =>
      rw [if_pos rfl]
      by_cases h2 : 0 < i ∧ lt (rd_T26 l ((i - 1 : Nat) : Int)) (rd_T26 l i) = false
      · rw [if_pos ⟨h2.1, hc.2 h2.2⟩, h2.2]
        have : (i == 0) = false := by simp; omega
        rw [this]
        rfl
      · rw [if_neg (fun h => h2 ⟨h.1, hc.1 h.2⟩)]
        have : (i == 0 || lt (rd_T26 l ((i - 1 : Nat) : Int)) (rd_T26 l i)) = true := by
          cases hq : lt (rd_T26 l ((i - 1 : Nat) : Int)) (rd_T26 l i) with
          | true => simp
          | false =>
            have : i = 0 := by
              rcases Nat.eq_zero_or_pos i with e | e
              · exact e
              · exact absurd ⟨e, hq⟩ h2
            simp [this]
        rw [this]
        cases h3 : (l.take i).any (same (rd_T26 l i)) with
        | true => rfl
        | false => rfl
theorem check (l : List S26) : waiting_Check.f l = some (err (chk l)) := check_loop l _ _ rfl
theorem half (i j : Nat) (h : i + j < 100000) : wrap64 ((IntKind.u64.wrap (wrap64 ((i : Int) + j))) / 2) = (((i + j) / 2 : Nat) : Int) := by
  simp only [IntKind.wrap, wrap64]
  simp [IntKind.bits, IntKind.signed]
  omega
theorem bs_loop (l : List S26) (hl : l.length ≤ 1000) (hp : l.Pairwise (fun a b => lt a b = true)) (o : S26) : ∀ (n i j k : Nat), i ≤ pos l o → pos l o ≤ j → j ≤ l.length → j - i ≤ n → n + 1 ≤ k →
    ∃ q, api_Wait_30.l0 k l (l.length : Int) (i : Int) (j : Int) o.f0 o.f1.f0 o.f1.f1 o.f2 o.f3 = some ((pos l o : Int), q)
  | n, i, j, k + 1, h1, h2, h3, h4, hk => by
    unfold api_Wait_30.l0
    by_cases hij : i < j
    · have hm : (i + j) / 2 < l.length := by omega
      obtain ⟨n', rfl⟩ : ∃ n', n = n' + 1 := ⟨n - 1, by omega⟩
      obtain ⟨t, ht, ht1, ht2⟩ := compare_ l[(i + j) / 2] o
      rw [if_pos (by omega), half i j (by omega), if_pos (by omega), if_pos (by omega), rd_at hm, ht, Option.bind_some, w64 _ (by omega)]
      have hq := pos_lt o l hp _ hm
      by_cases hlt : lt l[(i + j) / 2] o = true
      · rw [if_pos (ht1.2 hlt)]
        rw [hlt] at hq
        have := of_decide_eq_true hq.symm
        exact bs_loop l hl hp o n' _ _ _ (by omega) h2 h3 (by omega) (by omega)
      · rw [if_neg (mt ht1.1 hlt)]
        rw [Bool.not_eq_true] at hlt
        rw [hlt] at hq
        have := of_decide_eq_false hq.symm
        exact bs_loop l hl hp o n' _ _ _ h1 (by omega) (by omega) (by omega) (by omega)
    · obtain rfl : i = pos l o := by omega
      rw [if_neg (by omega)]
      by_cases hpl : pos l o < l.length
      · obtain ⟨t, ht, ht1, ht2⟩ := compare_ l[pos l o] o
        rw [if_pos (by omega), if_pos (by omega), if_pos (by omega), rd_at hpl, ht, Option.bind_some]
        exact ⟨_, rfl⟩
      · rw [if_neg (by omega)]
        exact ⟨_, rfl⟩
theorem bs (l : List S26) (hl : l.length ≤ 1000) (hp : l.Pairwise (fun a b => lt a b = true)) (o : S26) (k : Nat) (hk : l.length + 1 ≤ k) : ∃ q, api_Wait_30.f k l o.f0 o.f1.f0 o.f1.f1 o.f2 o.f3 () = some ((pos l o : Int), q) := by
  have := bs_loop l hl hp o l.length 0 l.length k (Nat.zero_le _) (pos_le o l) (Nat.le_refl _) (by omega) hk
  simpa [api_Wait_30.f] using this

def jn (l : List S26) (o : S26) : List S26 × Int := if chk l = true ∧ ok o = true ∧ met l o = false then (ins l o, 0) else ([], 260)
theorem join (l : List S26) (hl : l.length ≤ 1000) (o : S26) (k : Nat) (hk : l.length + 2 ≤ k) : waiting_Join.f k l o.f0 o.f1.f0 o.f1.f1 o.f2 o.f3 = some (jn l o) := by
  obtain ⟨k, rfl⟩ : ∃ k', k = k' + 1 := ⟨k - 1, by omega⟩
  unfold waiting_Join.f
  rw [check l, Option.bind_some, fits, Option.bind_some]
  simp only [waiting_Join.j0, jn]
  cases hc : chk l with
  | false => simp [err]
  | true =>
    have hV := (chk_V.1 hc)
    cases ho : ok o with
    | false => simp [err]
    | true =>
      obtain ⟨q, hq⟩ := bs l hl hV.2.1 o k (by omega)
      rw [hq]
      simp only [err, waiting_find.f, Option.bind_some]
      rcases idx_or (isOffer o.f0 o.f1.f0 o.f1.f1) l 0 with ⟨h1, h2⟩ | ⟨j, hj, h1, h2, h3⟩
      · have h2' : met l o = false := h2
        have hpl := pos_le o l
        rw [h1, h2']
        simp only [api_Wait_33.f, api_Wait_32.f]
        rw [if_pos (show l.length * 40 ≤ 140737488355328 by omega)]
        simp only [Option.bind_some]
        rw [if_pos (show (l.length + 1) * 40 ≤ 140737488355328 ∧ (0 : Int) ≤ (pos l o : Int) ∧ (pos l o : Int) ≤ (l.length : Int) ∧ ([(⟨o.f0, ⟨o.f1.f0, o.f1.f1⟩, o.f2, o.f3⟩ : S26)] : List S26).length = 1 from ⟨by omega, by omega, by omega, rfl⟩)]
        simp [← ins_eq]
      · have h3' : met l o = true := h3
        rw [h1, h3']
        simp
def out5 (p : S26 × Bool) : Int × Int × Int × Int × Int × Bool := (p.1.f0, p.1.f1.f0, p.1.f1.f1, p.1.f2, p.1.f3, p.2)
theorem first_loop (l : List S26) (hl : l.length ≤ 1000) (a b : Int) : ∀ (n i k : Nat) (w : S26) (q : Bool), n + i = l.length → n + 1 ≤ k → waiting_First.l0 k q l (l.length : Int) (i : Int) a b w.f0 w.f1.f0 w.f1.f1 w.f2 w.f3 = some (out5 (fl a b w q (l.drop i)))
  | 0, i, k + 1, w, q, h, hk => by
    unfold waiting_First.l0
    rw [if_neg (by omega), List.drop_eq_nil_of_le (by omega)]
    rfl
  | n + 1, i, k + 1, w, q, h, hk => by
    have hi : i < l.length := by omega
    unfold waiting_First.l0
    obtain ⟨t, ht, ht1, ht2⟩ := compare_ l[i] w
    rw [if_pos (by omega), if_pos (by omega), if_pos (by omega), rd_at hi, w64 _ (by omega), List.drop_eq_getElem_cons hi, ht, Option.bind_some, fl, first_loop l hl a b n (i + 1) k l[i] true (by omega) (by omega), first_loop l hl a b n (i + 1) k w q (by omega) (by omega)]
    show (if bd a b l[i] = true then _ else _) = _
    by_cases hb : bd a b l[i] = true
    · rw [if_pos hb]
      cases q with
      | false => rw [if_neg (by simp), if_pos ⟨hb, .inl rfl⟩]
      | true =>
        rw [if_pos rfl]
        by_cases hlt : lt l[i] w = true
        · rw [if_pos (ht1.2 hlt), if_pos ⟨hb, .inr hlt⟩]
        · rw [if_neg (mt ht1.1 hlt), if_neg (by rintro ⟨_, h | h⟩; cases h; exact hlt h)]
    · rw [if_neg hb, if_neg (fun h => hb h.1)]
theorem first (l : List S26) (hl : l.length ≤ 1000) (a b : Int) (k : Nat) (hk : l.length + 1 ≤ k) : waiting_First.f k l a b = some (out5 (fl a b z26 false l)) := by
  have := first_loop l hl a b l.length 0 k z26 false (by omega) hk
  rw [List.drop_zero] at this
  exact this
theorem same_loop (l m : List S26) (hl : l.length ≤ 1000) (he : l.length = m.length) : ∀ (n i k : Nat), n + i = l.length → n + 1 ≤ k → sizarref26_Same.l0 k l m (i : Int) = some (decide (l.drop i = m.drop i))
  | 0, i, k + 1, h, hk => by
    unfold sizarref26_Same.l0
    rw [if_neg (by omega), List.drop_eq_nil_of_le (by omega), List.drop_eq_nil_of_le (by omega)]
    simp
  | n + 1, i, k + 1, h, hk => by
    have hi : i < l.length := by omega
    have hi' : i < m.length := by omega
    have ih := same_loop l m hl he n (i + 1) k (by omega) (by omega)
    unfold sizarref26_Same.l0
    rw [if_pos (by omega), if_pos (by omega), if_pos (by omega), rd_at hi, rd_at hi', w64 _ (by omega), ih, List.drop_eq_getElem_cons hi, List.drop_eq_getElem_cons hi']
    generalize l[i] = x
    generalize m[i] = y
    obtain ⟨x0, ⟨x1, x2⟩, x3, x4⟩ := x
    obtain ⟨y0, ⟨y1, y2⟩, y3, y4⟩ := y
    by_cases h0 : x0 = y0 <;> by_cases h1 : x1 = y1 <;> by_cases h2 : x2 = y2 <;> by_cases h3 : x3 = y3 <;> by_cases h4 : x4 = y4 <;> simp [h0, h1, h2, h3, h4]
theorem same_ (l m : List S26) (hl : l.length ≤ 1000) (k : Nat) (hk : l.length + 1 ≤ k) : sizarref26_Same.f k l m = some (decide (l = m)) := by
  unfold sizarref26_Same.f
  by_cases he : l.length = m.length
  · rw [if_pos (by omega)]
    have := same_loop l m hl he l.length 0 k (by omega) hk
    simpa using this
  · rw [if_neg (by omega)]
    simp
    intro h
    exact he (by rw [h])
theorem few (l : List S26) : sizarref26_Few.f l = some (decide (l.length ≤ 40)) := by
  unfold sizarref26_Few.f
  congr 1
  rw [decide_eq_decide]
  omega
theorem sane : sizarlaw26_sane.f 300 = some true := by decide +kernel
end Z
end Go.Proofs.Ytjffojmpfdoodaa.X
-- The laws of the package waiting, in plain lists.
namespace Go.Proofs.Ytjffojmpfdoodaa.X
open Go.RowKit Go.Proofs.YtjffojmpfdoodaaW.PrintWords
set_option linter.unusedVariables false
set_option linter.unusedSimpArgs false
namespace Z
theorem jn_ok {l : List S26} {o : S26} (hV : V l) (ho : ok o = true) (hm : met l o = false) : jn l o = (ins l o, 0) := by
  unfold jn
  rw [if_pos ⟨chk_V.2 hV, ho, hm⟩]
theorem jn_zero {l : List S26} {o : S26} (h : (jn l o).2 = 0) : V l ∧ ok o = true ∧ met l o = false ∧ jn l o = (ins l o, 0) := by
  unfold jn at h ⊢
  split at h
  · rename_i hc
    exact ⟨chk_V.1 hc.1, hc.2.1, hc.2.2, if_pos hc⟩
  · cases h
theorem jn_len (l : List S26) (o : S26) : (jn l o).1.length ≤ l.length + 1 := by
  unfold jn
  split
  · rw [ins_len]; omega
  · simp
end Z
open Z
theorem Z.order_ok {l : List S26} {a b : S26} (he : (jn l a).2 = 0) (hg : (jn (jn l a).1 b).2 = 0) : (jn l b).2 = 0 ∧ (jn (jn l b).1 a).2 = 0 ∧ (jn (jn l a).1 b).1 = (jn (jn l b).1 a).1 ∧ V (jn (jn l a).1 b).1 ∧ (jn (jn l a).1 b).1.length = l.length + 2 := by
  obtain ⟨hV, hoa, hma, ea⟩ := jn_zero he
  rw [ea] at hg ⊢
  obtain ⟨hVa, hob, hmb, eb⟩ := jn_zero hg
  simp only [] at hVa hmb eb ⊢
  rw [eb]
  have hmb' : met l b = false := by
    rw [met_no] at hmb ⊢
    exact fun x hx => hmb x (mem_ins.2 (.inr hx))
  have hab : same a b = false := by
    rw [met_no] at hmb
    exact hmb a (mem_ins.2 (.inl rfl))
  have e1 := jn_ok hV hob hmb'
  have hVb := ins_V hV hob hmb'
  have hma' : met (ins l b) a = false := by
    rw [met_no] at hma ⊢
    intro x hx
    rcases mem_ins.1 hx with rfl | h
    · rw [same_comm]; exact hab
    · exact hma x h
  rw [e1]
  have e2 := jn_ok hVb hoa hma'
  simp only []
  rw [e2]
  refine ⟨trivial, rfl, ?_, ins_V hVa hob hmb, by simp [ins_len]⟩
  refine sorted_ext (ins_V hVa hob hmb).2.1 (ins_V hVb hoa hma').2.1 ?_
  exact ((ins_perm _ _).trans ((ins_perm _ _).cons b)).trans ((List.Perm.swap a b l).trans (((ins_perm _ _).cons a).symm.trans (ins_perm _ _).symm))
theorem Pu.WaitingOrder (l0 : List S26) (a b : S26) : ∃ k, sizarlaw26_WaitingOrder.f k l0 a.f0 a.f1.f0 a.f1.f1 a.f2 a.f3 b.f0 b.f1.f0 b.f1.f1 b.f2 b.f3 = some true := by
  refine ⟨300, ?_⟩
  unfold sizarlaw26_WaitingOrder.f
  rw [sane, Option.bind_some, if_pos rfl, few, Option.bind_some]
  by_cases h : l0.length ≤ 40
  · have la := jn_len l0 a
    have lb := jn_len l0 b
    have lab := jn_len (jn l0 a).1 b
    have lba := jn_len (jn l0 b).1 a
    rw [if_pos (by simpa using h), join l0 (by omega) a _ (by omega), join l0 (by omega) b _ (by omega), Option.bind_some, Option.bind_some, join _ (by omega) b _ (by omega), join _ (by omega) a _ (by omega), Option.bind_some, Option.bind_some]
    have key : ((jn l0 a).2 = 0 ∧ (jn (jn l0 a).1 b).2 = 0) ↔ ((jn l0 b).2 = 0 ∧ (jn (jn l0 b).1 a).2 = 0) :=
      ⟨fun h => ⟨(order_ok h.1 h.2).1, (order_ok h.1 h.2).2.1⟩, fun h => ⟨(order_ok h.1 h.2).1, (order_ok h.1 h.2).2.1⟩⟩
    have done : ∀ q : Bool, q = false → sizarlaw26_WaitingOrder.j0 300 l0 (jn l0 a).2 (jn (jn l0 a).1 b).1 (jn (jn l0 a).1 b).2 (jn (jn l0 b).1 a).1 q = some true := by
      rintro q rfl
      simp only [sizarlaw26_WaitingOrder.j0]
      rw [if_neg (by simp)]
      by_cases he : (jn l0 a).2 = 0
      · by_cases hg : (jn (jn l0 a).1 b).2 = 0
        · obtain ⟨_, _, h3, h4, h5⟩ := order_ok he hg
          rw [if_pos he, if_pos hg, same_ _ _ (by omega) _ (by omega), Option.bind_some, if_pos (by simpa using h3), check, chk_V.2 h4, Option.bind_some, if_pos (show err true = 0 from rfl), h5]
          have : wrap64 ((l0.length : Int) + 2) = ((l0.length + 2 : Nat) : Int) := by unfold wrap64; omega
          rw [this]
          simp
        · rw [if_pos he, if_neg hg]
      · rw [if_neg he]
    by_cases he : (jn l0 a).2 = 0
    · by_cases hf : (jn l0 b).2 = 0
      · rw [if_pos he, if_pos hf]
        refine done _ ?_
        rw [bne_eq_false_iff_eq, Bool.eq_iff_iff, beq_iff_eq, beq_iff_eq]
        exact ⟨fun h => (key.1 ⟨he, h⟩).2, fun h => (key.2 ⟨hf, h⟩).2⟩
      · rw [if_pos he, if_neg hf]
        refine done _ ?_
        have : ¬ (jn (jn l0 a).1 b).2 = 0 := fun h => hf (key.1 ⟨he, h⟩).1
        simp [this]
    · by_cases hf : (jn l0 b).2 = 0
      · rw [if_neg he, if_pos hf]
        refine done _ ?_
        have : ¬ (jn (jn l0 b).1 a).2 = 0 := fun h => he (key.2 ⟨hf, h⟩).1
        simp [this]
      · rw [if_neg he, if_neg hf]
        exact done _ rfl
  · rw [if_neg (by simpa using h)]
end Go.Proofs.Ytjffojmpfdoodaa.X
-- The row of the law WaitingOrder, out of its pure proof and its walk (written by wip/mkrow.py).
namespace Go.Proofs.Ytjffojmpfdoodaa.waitingOrder
open Go.ChangeShapes Go.WideShapes Go.ChangeAt Go.RowKit Go.Proofs.YtjffojmpfdoodaaW.PrintWords Go.Proofs.YtjffojmpfdoodaaW.Opn Go.Proofs.Ytjffojmpfdoodaa.X
open Go.ChangeMaps (open_string shut_string)
set_option linter.unusedVariables false
theorem own : ownKnob Try.prog.godebug = none := by kernel_rfl
theorem laidOut : laidOutB Try.prog = true := by kernel_rfl
set_option maxRecDepth 100000 in
theorem lifted (os : Os) (started : os.Started) (H : Type) (enc : TypeId × Value → H) :
    ReturnsInHanded {} Try.checked os 8 .any (Rows.waitingOrderSpec.pre6 enc Try.prog Try.f8 Rows.waitingOrderRow.domain false) (Rows.waitingOrderSpec.post enc Try.prog Try.f8 false true false false) := by
  refine returnsInHanded_of_change_sized (C := Try.checked) own started (by kernel_rfl) Try.func8
    (ChangeSpec.witness6 (enc := enc) (C := Try.checked) false ⟨#[], #[.slice none 0 0, .agg #[.int .i64 0,.int .i64 0,.int .i64 0,.int .i64 0,.int .i64 0], .agg #[.int .i64 0,.int .i64 0,.int .i64 0,.int .i64 0,.int .i64 0]], []⟩ 8 (by kernel_rfl) (by kernel_rfl) (by kernel_rfl) (by kernel_rfl)) ?_
  intro W base args ds gs before hval0 hW hcnd hsz0 _
  have hval : ∀ (j : Nat) t v, Try.f8.params[j]? = some t → args[j]? = some v → Value.okWide Try.prog W .any base t v := hval0
  have hW' := hW
  obtain ⟨p, q, hA0, hV, rfl, hfz, hnd⟩ := hW
  have hA : DataW.TrodAll enc Try.prog W 0 (fun _ => true) true Try.f8.params.toList args.toList ds p := hA0
  rw [Try.params8] at hA hval
  obtain ⟨v0, vs0, d0, ds0, p0, q0, hargs, rfl, rfl, h0, r0⟩ := trodAll_cons hA
  obtain ⟨v1, vs1, d1, ds1, p1, q1, rfl, rfl, rfl, h1, r1⟩ := trodAll_cons r0
  obtain ⟨v2, vs2, d2, ds2, p2, q2, rfl, rfl, rfl, h2, r2⟩ := trodAll_cons r1
  obtain ⟨rfl, rfl, rfl⟩ := trodAll_nil r2
  obtain rfl : args = #[v0, v1, v2] := by cases args; simp_all
  obtain ⟨rfl, rfl⟩ := trodVars_none hV
  have k0 := h0
  have lt0 : ∀ x ∈ p0, x.block < W.heap.size := by obtain ⟨m, hm⟩ := k0; exact DataW.trod_lt m _ _ _ hm
  obtain ⟨A0, c0, l0, rfl, hc0, hr0, ho0⟩ := Opens.arg_slice op26 Try.underlying22 (hval 0 22 v0 rfl rfl) h0
  have k1 := h1
  have lt1 : ∀ x ∈ p1, x.block < W.heap.size := by obtain ⟨m, hm⟩ := k1; exact DataW.trod_lt m _ _ _ hm
  obtain ⟨y1, cs1, rfl, hk1, ho1⟩ := Opens.arg_struct op26 Try.underlying26 (hval 1 26 v1 rfl rfl) h1
  obtain rfl := k26_open hk1
  have k2 := h2
  have lt2 : ∀ x ∈ p2, x.block < W.heap.size := by obtain ⟨m, hm⟩ := k2; exact DataW.trod_lt m _ _ _ hm
  obtain ⟨y2, cs2, rfl, hk2, ho2⟩ := Opens.arg_struct op26 Try.underlying26 (hval 2 26 v2 rfl rfl) h2
  obtain rfl := k26_open hk2
  clear hA0 hval0 hsz0
  obtain ⟨k, hk_⟩ := Pu.WaitingOrder l0 y1 y2
  refine (sizarlaw26_WaitingOrder.calls k A0 c0 l0 y1.f0 y1.f1.f0 y1.f1.f1 y1.f2 y1.f3 y2.f0 y2.f1.f0 y2.f1.f1 y2.f2 y2.f3 true W hr0 hc0 hk_).mono fun e W' ⟨he, bel0⟩ => ?_
  have bel : Below W.heap.size W W' := bel0
  subst he
  exact ⟨_, rfl, _, _, _, [], _, [], hW', trodAll_mk1 (shut_bool Try.underlying4 _), (trodAll_cons_mk (Below.trod laidOut (by kernel_rfl) (of_decide_eq_true (by kernel_rfl)) k0 bel lt0) (trodAll_cons_mk (Below.trod laidOut (by kernel_rfl) (of_decide_eq_true (by kernel_rfl)) k1 bel lt1) (trodAll_cons_mk (Below.trod laidOut (by kernel_rfl) (of_decide_eq_true (by kernel_rfl)) k2 bel lt2) trodAll_mk0))), rfl, bel.frame _, fun h => by cases h⟩
theorem over : Rows.waitingOrderRow.holds Try.pinned (OpenSpec.ofChange Rows.waitingOrderSpec) :=
  OpenClaim.holds_of_wide 8 Try.f8 rfl rfl rfl rfl rfl rfl rfl ⟨rfl, rfl, rfl, rfl, rfl⟩ rfl rfl rfl rfl rfl (by kernel_rfl) Try.func8 (by kernel_rfl)
    (of_decide_eq_true (by kernel_rfl)) (by unfold Func.isWrapper; first | (rw [if_pos (by decide +kernel)]; kernel_rfl) | (rw [if_neg (by decide +kernel)]; exact ⟨rfl, rfl⟩))
    (fun os started H enc _ => lifted os started H enc)
end Go.Proofs.Ytjffojmpfdoodaa.waitingOrder
namespace Go.Proofs.Ytjffojmpfdoodaa
/-- The row, under a short name, for the claim. -/
theorem waitingOrder_holds : Rows.WaitingOrderSaid := waitingOrder.over
#print axioms waitingOrder_holds
end Go.Proofs.Ytjffojmpfdoodaa
