/- The law NetworkMoveSpec is proved, whatever its input: no condition. -/
import Derived.Test.Ytccmjndldffclaaqmb7
import Derived.ChangeOld
import Derived.OpenShut
import Derived.ProofKit
import Derived.ShutString
import Derived.SizedLaws
import Derived.Test.YtccmjndldffclaaRows
-- What the functions of the package network and of its reference compute, in plain lists.
namespace Go.Proofs.Ytccmjndldffclaa.X
open Go.RowKit Go.Proofs.YtccmjndldffclaaW.PrintWords
set_option linter.unusedVariables false
set_option linter.unusedSimpArgs false
namespace Z
def pok (p : S28) : Bool := decide (0 ≤ p.f0 ∧ p.f0 < 7 ∧ 0 ≤ p.f1 ∧ p.f1 < 7 ∧ p.f0 ≠ p.f1 ∧ (p.f2.length : Int) ≤ 1048576)
def lok (x : S55) : Bool := decide (0 ≤ x.f0 ∧ x.f0 < x.f1 ∧ x.f1 < 7)
def llt (x y : S55) : Bool := decide (x.f0 < y.f0 ∨ x.f0 = y.f0 ∧ x.f1 < y.f1)
/-- The links from the place a on. -/
def lks (l : List S55) : Nat → Nat → Bool
  | 0, _ => true
  | n + 1, a => lok (rd_T55 l a) && (decide (a = 0) || llt (rd_T55 l ((a - 1 : Nat) : Int)) (rd_T55 l a)) && lks l n (a + 1)
def net (q : List S28) (l : List S55) : Bool := decide (q.length ≤ 4096) && q.all pok && lks l l.length 0
def chk (q : List S28) (l : List S55) : Int := if net q l = true then 0 else 480
theorem packet_ (a b : Int) (d : List Int) : network_packet.f a b d = some (pok ⟨a, b, d⟩) := by
  have hv : network_link_valid.f (mn a b) (mx a b) = some (decide (0 ≤ a ∧ a < 7 ∧ 0 ≤ b ∧ b < 7 ∧ a ≠ b)) := by
    unfold network_link_valid.f mn mx
    repeat' split
    all_goals (congr 1; first | (rw [decide_eq_decide]; omega) | (symm; rw [decide_eq_false_iff_not]; omega))
  unfold network_packet.f network_between.f pok
  rw [Option.bind_some, hv, Option.bind_some]
  by_cases h : 0 ≤ a ∧ a < 7 ∧ 0 ≤ b ∧ b < 7 ∧ a ≠ b
  · rw [if_pos (decide_eq_true h)]
    congr 1
    rw [decide_eq_decide]
    simp only []
    omega
  · rw [if_neg (by rw [decide_eq_false h]; decide)]
    congr 1
    symm
    rw [decide_eq_false_iff_not]
    simp only []
    omega
theorem packetR_ (a b : Int) (d : List Int) : sizarref48_Packet.f a b d = some (pok ⟨a, b, d⟩) := by
  have hc : ∀ x : Int, sizarref48_Campus.f x = some (decide (0 ≤ x ∧ x < 7)) := fun x => by
    unfold sizarref48_Campus.f
    split
    all_goals (congr 1; first | (rw [decide_eq_decide]; omega) | (symm; rw [decide_eq_false_iff_not]; omega))
  unfold sizarref48_Packet.f pok
  rw [hc, hc, Option.bind_some, Option.bind_some]
  simp only [decide_eq_true_eq]
  repeat' split
  all_goals (congr 1; first | (rw [decide_eq_decide]; omega) | (symm; rw [decide_eq_false_iff_not]; omega))
theorem w64 (i : Nat) (h : i < 1000000) : wrap64 ((i : Int) + 1) = ((i + 1 : Nat) : Int) := by unfold wrap64; omega
theorem w64' (i : Nat) (h : i < 1000000) : wrap64 (((i + 1 : Nat) : Int) - 1) = (i : Int) := by unfold wrap64; omega
theorem rd28 {l : List S28} {i : Nat} (h : i < l.length) : rd_T28 l (i : Int) = l[i] := by simp [rd_T28, List.getD_eq_getElem?_getD, List.getElem?_eq_getElem h]
theorem rd55 {l : List S55} {i : Nat} (h : i < l.length) : rd_T55 l (i : Int) = l[i] := by simp [rd_T55, List.getD_eq_getElem?_getD, List.getElem?_eq_getElem h]
theorem any_ (q : List S28) (hq : q.length ≤ 4096) : ∀ (n i k : Nat), n + i = q.length → n + 1 ≤ k → ∃ t, api_Packet_43.l0 k q (q.length : Int) (i : Int) = some t ∧ (decide (t ≥ 0) = !(q.drop i).all pok)
  | 0, i, k + 1, h, hk => by
    unfold api_Packet_43.l0
    rw [if_neg (by omega), List.drop_eq_nil_of_le (by omega)]
    exact ⟨_, rfl, by simp⟩
  | n + 1, i, k + 1, h, hk => by
    have hi : i < q.length := by omega
    obtain ⟨t, h1, h2⟩ := any_ q hq n (i + 1) k (by omega) (by omega)
    unfold api_Packet_43.l0 network_Check_1.f
    rw [if_pos (by omega), if_pos (by omega), if_pos (by omega), packet_, Option.bind_some, Option.bind_some, w64 i (by omega), h1, rd28 hi, List.drop_eq_getElem_cons hi, List.all_cons]
    cases hp : pok q[i] with
    | true => exact ⟨t, by simp [hp], by rw [h2]; simp [hp]⟩
    | false => exact ⟨i, by simp [hp], by simp [hp]⟩
theorem chkA_ (l : List S55) : ∀ (n a : Nat), chkA l n a = some (if lks l n a = true then 0 else 480)
  | 0, a => rfl
  | n + 1, a => by
    have ih := chkA_ l n (a + 1)
    unfold chkA lks network_link_valid.f
    rw [ih]
    generalize rd_T55 l a = x
    generalize rd_T55 l ((a - 1 : Nat) : Int) = p
    have hc : (0 < a ∧ 0 ≤ cmp2 p x) ↔ ¬ (a = 0 ∨ llt p x = true) := by
      unfold cmp2 llt
      rw [decide_eq_true_eq]
      repeat' split
      all_goals omega
    have hv : (if x.f0 ≥ 0 then (if x.f0 < x.f1 then some (decide (x.f1 < 7)) else some false) else some false) = some (lok x) := by
      unfold lok
      by_cases h1 : x.f0 ≥ 0 <;> by_cases h2 : x.f0 < x.f1 <;> simp [h1, h2]
    rw [hv, Option.bind_some]
    cases hx : lok x with
    | false => simp
    | true =>
      by_cases h : a = 0 ∨ llt p x = true
      · rw [if_pos rfl, if_neg (by rw [hc]; exact not_not_intro h)]
        have : (decide (a = 0) || llt p x) = true := by simpa using h
        rw [this]
        simp
      · rw [if_pos rfl, if_pos (hc.2 h)]
        have : (decide (a = 0) || llt p x) = false := by simpa using h
        rw [this]
        simp
theorem check_ (q : List S28) (l : List S55) : network_Check.f q l = some (chk q l) := by
  unfold network_Check.f chk net
  by_cases h : q.length ≤ 4096
  · rw [if_neg (by omega)]
    obtain ⟨t, h1, h2⟩ := any_ q h q.length 0 (q.length + 5) (by omega) (by omega)
    unfold api_Packet_30.f api_Packet_43.f
    rw [show ((0 : Nat) : Int) = 0 from rfl] at h1
    rw [h1, Option.bind_some, Option.bind_some, h2, List.drop_zero, chkA_]
    cases q.all pok <;> simp [h]
  · rw [if_pos (by omega)]
    simp [h]
theorem l1_ (q : List S28) (l : List S55) (hl : l.length < 1000000) : ∀ (n i k : Nat), n + i = l.length → 2 * n + 1 ≤ k → sizarref48_Check.l1 k (i : Int) q l = some (if lks l n i = true then 0 else 480)
  | 0, i, k + 1, h, hk => by
    unfold sizarref48_Check.l1
    rw [if_neg (by omega)]
    rfl
  | n + 1, i, k + 2, h, hk => by
    have hi : i < l.length := by omega
    have ih := l1_ q l hl n (i + 1) k (by omega) (by omega)
    unfold sizarref48_Check.l1
    rw [if_pos (by omega), if_pos (by omega)]
    unfold lks
    have hj : ∀ b : Bool, sizarref48_Check.j2 (k + 1) (i : Int) b q l (rd_T55 l i).f0 (rd_T55 l i).f1 = some (if (!b && (decide (i = 0) || llt (rd_T55 l ((i - 1 : Nat) : Int)) (rd_T55 l i)) && lks l n (i + 1)) = true then 0 else 480) := by
      intro b
      unfold sizarref48_Check.j2
      rw [w64 i (by omega), ih]
      generalize hx : rd_T55 l i = x
      cases b with
      | true => simp
      | false =>
        rw [if_neg (by decide)]
        cases i with
        | zero => simp
        | succ j =>
          rw [w64' j (by omega), if_pos (by omega), if_pos (by omega), if_pos (by omega), show j + 1 - 1 = j from rfl]
          generalize rd_T55 l j = p
          unfold llt
          have e0 : decide (j + 1 = 0) = false := by simp
          rw [e0]
          simp only [Bool.not_false, Bool.true_and, Bool.false_or]
          cases lks l n (j + 1 + 1) <;> simp only [Bool.and_true, Bool.and_false, decide_eq_true_eq, Bool.false_eq_true, if_false, if_true] <;> (repeat' split) <;> first | rfl | (exfalso; omega)
    rw [hj, hj]
    generalize hx : rd_T55 l i = x
    have hc : ∀ x : Int, sizarref48_Campus.f x = some (decide (0 ≤ x ∧ x < 7)) := fun x => by
      unfold sizarref48_Campus.f
      split
      all_goals (congr 1; first | (rw [decide_eq_decide]; omega) | (symm; rw [decide_eq_false_iff_not]; omega))
    rw [hc, hc, Option.bind_some, Option.bind_some]
    by_cases h : lok x = true
    · have h' := h
      simp only [lok, decide_eq_true_eq] at h'
      rw [if_pos (by simp only [decide_eq_true_eq]; omega), if_pos (by simp only [decide_eq_true_eq]; omega), h, show decide (x.f0 ≥ x.f1) = false from decide_eq_false (by omega)]
      rfl
    · have h' := h
      simp only [lok, decide_eq_true_eq] at h'
      rw [Bool.not_eq_true] at h
      rw [h]
      simp only [decide_eq_true_eq]
      repeat' split
      all_goals first | rfl | (exfalso; omega) | (rw [show decide (x.f0 ≥ x.f1) = true from decide_eq_true (by omega)]; rfl) | (simp_all; done) | (simp_all; omega)
theorem l0_ (q : List S28) (l : List S55) (hq : q.length ≤ 4096) (hl : l.length < 1000000) : ∀ (n i k : Nat), n + i = q.length → n + 1 + (2 * l.length + 1) ≤ k → sizarref48_Check.l0 k (i : Int) q l = some (if ((q.drop i).all pok && lks l l.length 0) = true then 0 else 480)
  | 0, i, k + 1, h, hk => by
    unfold sizarref48_Check.l0
    rw [if_neg (by omega), List.drop_eq_nil_of_le (by omega)]
    have := l1_ q l hl l.length 0 k (by omega) (by omega)
    rw [show ((0 : Nat) : Int) = 0 from rfl] at this
    rw [this]
    simp
  | n + 1, i, k + 1, h, hk => by
    have hi : i < q.length := by omega
    unfold sizarref48_Check.l0
    rw [if_pos (by omega), if_pos (by omega), packetR_, Option.bind_some, w64 i (by omega), l0_ q l hq hl n (i + 1) k (by omega) (by omega), rd28 hi, List.drop_eq_getElem_cons hi, List.all_cons]
    cases hp : pok q[i] <;> simp [hp]
theorem checkR_ (q : List S28) (l : List S55) (k : Nat) (hl : l.length < 1000000) (hk : q.length + 2 * l.length + 2 ≤ k) : sizarref48_Check.f k q l = some (chk q l) := by
  unfold sizarref48_Check.f chk net
  by_cases h : q.length ≤ 4096
  · rw [if_neg (by omega)]
    have := l0_ q l h hl q.length 0 k (by omega) (by omega)
    rw [show ((0 : Nat) : Int) = 0 from rfl] at this
    rw [this]
    simp [h]
  · rw [if_pos (by omega)]
    simp [h]
theorem same_packet (p : S28) : sizarref48_SamePacket.f p.f0 p.f1 p.f2 p.f0 p.f1 p.f2 = some true := by
  unfold sizarref48_SamePacket.f
  simp
theorem same1 (q : List S28) (l : List S55) (hl : l.length < 1000000) : ∀ (n i k : Nat), n + i = l.length → n + 1 ≤ k → sizarref48_Same.l1 k (i : Int) q l q l = some true
  | 0, i, k + 1, h, hk => by
    unfold sizarref48_Same.l1
    rw [if_neg (by omega)]
  | n + 1, i, k + 1, h, hk => by
    unfold sizarref48_Same.l1
    rw [if_pos (by omega), if_pos (by omega), if_pos (by omega), w64 i (by omega), same1 q l hl n (i + 1) k (by omega) (by omega)]
    simp
theorem same0 (q : List S28) (l : List S55) (hq : q.length < 1000000) (hl : l.length < 1000000) : ∀ (n i k : Nat), n + i = q.length → n + 1 + (l.length + 1) ≤ k → sizarref48_Same.l0 k (i : Int) q l q l = some true
  | 0, i, k + 1, h, hk => by
    unfold sizarref48_Same.l0
    rw [if_neg (by omega)]
    have := same1 q l hl l.length 0 k (by omega) (by omega)
    rwa [show ((0 : Nat) : Int) = 0 from rfl] at this
  | n + 1, i, k + 1, h, hk => by
    unfold sizarref48_Same.l0
    rw [if_pos (by omega), if_pos (by omega), if_pos (by omega), same_packet, Option.bind_some, w64 i (by omega), same0 q l hq hl n (i + 1) k (by omega) (by omega)]
    simp
theorem same_ (q : List S28) (l : List S55) (k : Nat) (hq : q.length < 1000000) (hl : l.length < 1000000) (hk : q.length + l.length + 3 ≤ k) : sizarref48_Same.f k q l q l = some true := by
  obtain ⟨m, rfl⟩ : ∃ m, k = m + 1 := ⟨k - 1, by omega⟩
  have := same0 q l hq hl q.length 0 m (by omega) (by omega)
  rw [show ((0 : Nat) : Int) = 0 from rfl] at this
  unfold sizarref48_Same.f
  rw [if_pos rfl]
  simp [sizarref48_Same.j0, this]
/-- What Send leaves. -/
def snd (q : List S28) (l : List S55) (p : S28) : List S28 × List S55 × Int := if net q l = true ∧ pok p = true then (if q.length = 4096 then ([], [], 2) else (q ++ [p], l, 0)) else ([], [], 480)
theorem net_len {q : List S28} {l : List S55} (h : net q l = true) : q.length ≤ 4096 := by
  simp [net] at h
  exact h.1.1
theorem send_ (q : List S28) (l : List S55) (p : S28) : network_Send.f q l p.f0 p.f1 p.f2 = some (snd q l p) := by
  unfold network_Send.f snd
  rw [check_, Option.bind_some, packet_, Option.bind_some, chk]
  cases hn : net q l with
  | false => simp
  | true =>
    have hl := net_len hn
    cases hp : pok p with
    | false => simp [hp]
    | true =>
      by_cases h : q.length = 4096
      · simp [h, hp]
      · rw [if_pos rfl, if_pos rfl, if_pos rfl, if_neg (by omega), if_pos (by omega), if_pos ⟨rfl, rfl⟩, if_neg h]
theorem sendR_ (q : List S28) (l : List S55) (p : S28) (k : Nat) (hl : l.length < 1000000) (hk : q.length + 2 * l.length + 2 ≤ k) : sizarref48_Send.f k q l p.f0 p.f1 p.f2 = some (snd q l p) := by
  unfold sizarref48_Send.f snd
  rw [checkR_ q l k hl hk, Option.bind_some, packetR_, Option.bind_some, chk]
  obtain ⟨m, rfl⟩ : ∃ m, k = m + 1 := ⟨k - 1, by omega⟩
  unfold sizarref48_Send.j0
  cases hn : net q l with
  | false => simp
  | true =>
    have hl := net_len hn
    cases hp : pok p with
    | false => simp [hp]
    | true =>
      by_cases h : q.length = 4096
      · simp [h, hp]
      · have h1 : q.length < 3518437208883 := by omega
        have h2 : q.length + 1 < 3518437208883 := by omega
        have h3 : ¬ (q.length : Int) = 4096 := by omega
        simp [h, h1, h2, h3, hp]
end Z
end Go.Proofs.Ytccmjndldffclaa.X
-- The laws of the package network: what the program's functions compute answers as the statements say.
namespace Go.Proofs.Ytccmjndldffclaa.X
open Go.RowKit Go.Proofs.YtccmjndldffclaaW.PrintWords
set_option linter.unusedVariables false
set_option linter.unusedSimpArgs false
open Z
theorem Z.sane : sizarlaw48_sane.f 300 = some true := by decide +kernel
theorem Z.few (q : List S28) (l : List S55) : sizarref48_Few.f q l = some (decide (q.length ≤ 40 ∧ l.length ≤ 40)) := by
  unfold sizarref48_Few.f
  split
  all_goals (congr 1; first | (rw [decide_eq_decide]; omega) | (symm; rw [decide_eq_false_iff_not]; omega))
theorem Z.snd_len {q : List S28} {l : List S55} (p : S28) (hq : q.length ≤ 40) (hl : l.length ≤ 40) : (snd q l p).1.length ≤ 41 ∧ (snd q l p).2.1.length ≤ 40 := by
  unfold snd
  repeat' split
  all_goals simp <;> omega
end Go.Proofs.Ytccmjndldffclaa.X
-- What the functions that move packets compute, in plain lists.
namespace Go.Proofs.Ytccmjndldffclaa.X
open Go.RowKit Go.Proofs.YtccmjndldffclaaW.PrintWords
set_option linter.unusedVariables false
set_option linter.unusedSimpArgs false
namespace Z
/-- Without the packet at a place. -/
def wo (q : List S28) (i : Nat) : List S28 := q.take i ++ q.drop (i + 1)
theorem at_ (q : List S28) (l : List S55) (i : Nat) (hn : net q l = true) (hi : i < q.length) : network_at.f q l (i : Int) = some (q[i].f0, q[i].f1, q[i].f2, 0) := by
  unfold network_at.f
  rw [check_, Option.bind_some, chk, if_pos hn, if_pos rfl, if_neg (by omega), if_neg (by omega), if_pos (by omega), if_pos (by omega), rd28 hi]
theorem without_ (q : List S28) (l : List S55) (i : Nat) (hn : net q l = true) (hi : i < q.length) : network_without.f q l (i : Int) = some (wo q i, l) := by
  have := net_len hn
  unfold network_without.f wo
  rw [if_pos ⟨by omega, by omega, by omega⟩]
  rfl
def zp : S28 := ⟨0, 0, []⟩
/-- Is the link between two campuses cut? -/
def cut (l : List S55) (a b : Int) : Bool := cont l (mn a b) (mx a b)
/-- The packet that is delivered. -/
def got (l : List S55) (p : S28) : S28 := if cut l p.f0 p.f1 = true then zp else p
theorem deliver_ (q : List S28) (l : List S55) (i : Nat) (hl : l.length < 1000000) (hn : net q l = true) (hi : i < q.length) : network_Deliver.f q l (i : Int) = some ((got l q[i]).f0, (got l q[i]).f1, (got l q[i]).f2, wo q i, l, 0) := by
  unfold network_Deliver.f
  rw [at_ q l i hn hi, Option.bind_some]
  simp only []
  rw [if_pos trivial]
  unfold network_between.f
  rw [Option.bind_some, contains_cont _ _ _ (by omega), Option.bind_some, without_ q l i hn hi, Option.bind_some]
  unfold got cut
  cases cont l (mn q[i].f0 q[i].f1) (mx q[i].f0 q[i].f1) <;> simp [zp]
theorem lose_ (q : List S28) (l : List S55) (i : Nat) (hn : net q l = true) (hi : i < q.length) : network_Lose.f q l (i : Int) = some (wo q i, l, 0) := by
  unfold network_Lose.f
  rw [at_ q l i hn hi, Option.bind_some]
  simp only []
  rw [if_pos trivial, without_ q l i hn hi, Option.bind_some]
theorem repeat_ (q : List S28) (l : List S55) (i : Nat) (hn : net q l = true) (hi : i < q.length) : network_Repeat.f q l (i : Int) = some (snd q l q[i]) := by
  unfold network_Repeat.f
  rw [at_ q l i hn hi, Option.bind_some]
  simp only []
  rw [if_pos trivial, send_, Option.bind_some]
end Z
end Go.Proofs.Ytccmjndldffclaa.X
-- The functions that move packets answer as the reference's: the law.
namespace Go.Proofs.Ytccmjndldffclaa.X
open Go.RowKit Go.Proofs.YtccmjndldffclaaW.PrintWords
set_option linter.unusedVariables false
set_option linter.unusedSimpArgs false
open Z
theorem Z.iscut0 (q : List S28) (l : List S55) (x y : Int) (hl : l.length < 1000000) : ∀ (n i k : Nat), n + i = l.length → n + 1 ≤ k → sizarref48_IsCut.l0 k x y (i : Int) q l = some (cont (l.drop i) (mn x y) (mx x y))
  | 0, i, k + 1, h, hk => by
    unfold sizarref48_IsCut.l0
    rw [if_neg (by omega), List.drop_eq_nil_of_le (by omega)]
    rfl
  | n + 1, i, k + 1, h, hk => by
    have hi : i < l.length := by omega
    unfold sizarref48_IsCut.l0
    rw [if_pos (by omega), if_pos (by omega), rd55 hi, w64 i (by omega), iscut0 q l x y hl n (i + 1) k (by omega) (by omega), List.drop_eq_getElem_cons hi]
    unfold cont
    rw [List.any_cons]
    by_cases h0 : l[i].f0 = mn x y
    · by_cases h1 : l[i].f1 = mx x y
      · rw [if_pos h0, if_pos h1, h0, h1]; simp
      · rw [if_pos h0, if_neg h1, show (mx x y == l[i].f1) = false from beq_eq_false_iff_ne.mpr (fun e => h1 e.symm)]; simp
    · rw [if_neg h0, show (mn x y == l[i].f0) = false from beq_eq_false_iff_ne.mpr (fun e => h0 e.symm)]; simp
theorem Z.iscut_ (q : List S28) (l : List S55) (x y : Int) (k : Nat) (hl : l.length < 1000000) (hk : l.length + 1 ≤ k) : sizarref48_IsCut.f k q l x y = some (cut l x y) := by
  have := iscut0 q l x y hl l.length 0 k (by omega) (by omega)
  unfold sizarref48_IsCut.f cut
  rwa [show ((0 : Nat) : Int) = 0 from rfl, List.drop_zero] at this
/-- What Deliver, Lose and Repeat answer. -/
def Z.err (q : List S28) (l : List S55) (x : Int) : Int := if net q l = true then (if x < 0 then 1 else if x ≥ (q.length : Int) then 1 else 0) else 480
theorem Z.err0 {q : List S28} {l : List S55} {x : Int} (h : err q l x = 0) : net q l = true ∧ ∃ i : Nat, x = (i : Int) ∧ i < q.length := by
  unfold err at h
  split at h
  · rename_i hn
    split at h
    · cases h
    · split at h
      · cases h
      · exact ⟨hn, x.toNat, by omega, by omega⟩
  · cases h
theorem Z.asked_ (q : List S28) (l : List S55) (x : Int) (k : Nat) (hl : l.length < 1000000) (hk : q.length + 2 * l.length + 2 ≤ k) : sizarref48_asked.f k q l x = some (err q l x) := by
  unfold sizarref48_asked.f err
  rw [checkR_ q l k hl hk, Option.bind_some, chk]
  cases net q l with
  | false => rfl
  | true =>
    simp only [if_true]
    repeat' split
    all_goals rfl
theorem Z.at_no (q : List S28) (l : List S55) (x : Int) (h : ¬ err q l x = 0) : network_at.f q l x = some (0, 0, [], err q l x) := by
  unfold network_at.f
  rw [check_, Option.bind_some, chk]
  unfold err at h ⊢
  cases hn : net q l with
  | false => simp
  | true =>
    rw [hn] at h
    simp only [if_true] at h ⊢
    by_cases h1 : x < 0
    · rw [if_pos h1, if_pos h1]
    · by_cases h2 : x ≥ (q.length : Int)
      · rw [if_neg h1, if_neg h1, if_pos h2, if_pos h2]
      · rw [if_neg h1, if_neg h2] at h
        exact absurd rfl h
theorem Z.withoutR_ (q : List S28) (l : List S55) (i : Nat) (hq : q.length ≤ 4096) (hi : i < q.length) : sizarref48_without.f q l (i : Int) = some (wo q i, l) := by
  unfold sizarref48_without.f
  rw [Option.bind_some, if_pos (by omega), if_pos (by omega), Option.bind_some, if_pos (by simp; omega), Option.bind_some, w64 i (by omega), if_pos (by omega), if_pos (by omega), Option.bind_some, if_pos (by simp; omega)]
  rfl
/-- What Deliver answers. -/
def Z.dl (q : List S28) (l : List S55) (x : Int) : S28 × List S28 × List S55 × Int := if err q l x = 0 then (got l (rd_T28 q x), wo q x.toNat, l, 0) else (zp, [], [], err q l x)
def Z.ls (q : List S28) (l : List S55) (x : Int) : List S28 × List S55 × Int := if err q l x = 0 then (wo q x.toNat, l, 0) else ([], [], err q l x)
def Z.rp (q : List S28) (l : List S55) (x : Int) : List S28 × List S55 × Int := if err q l x = 0 then snd q l (rd_T28 q x) else ([], [], err q l x)
theorem Z.dl_ (q : List S28) (l : List S55) (x : Int) (hl : l.length < 1000000) : network_Deliver.f q l x = some ((dl q l x).1.f0, (dl q l x).1.f1, (dl q l x).1.f2, (dl q l x).2.1, (dl q l x).2.2.1, (dl q l x).2.2.2) := by
  unfold dl
  by_cases h : err q l x = 0
  · obtain ⟨hn, i, rfl, hi⟩ := err0 h
    rw [if_pos h, deliver_ q l i hl hn hi, rd28 hi]
    rfl
  · rw [if_neg h]
    unfold network_Deliver.f
    rw [at_no q l x h, Option.bind_some]
    simp only []
    rw [if_neg h]
    rfl
theorem Z.dlR_ (q : List S28) (l : List S55) (x : Int) (k : Nat) (hl : l.length < 1000000) (hk : q.length + 2 * l.length + 2 ≤ k) : sizarref48_Deliver.f k q l x = some ((dl q l x).1.f0, (dl q l x).1.f1, (dl q l x).1.f2, (dl q l x).2.1, (dl q l x).2.2.1, (dl q l x).2.2.2) := by
  unfold sizarref48_Deliver.f dl
  rw [asked_ q l x k hl hk, Option.bind_some]
  by_cases h : err q l x = 0
  · obtain ⟨hn, i, rfl, hi⟩ := err0 h
    rw [if_pos h, if_pos h, if_pos (by omega), if_pos (by omega), rd28 hi, iscut_ q l _ _ k hl (by omega), Option.bind_some, withoutR_ q l i (net_len hn) hi, Option.bind_some]
    unfold got
    cases cut l q[i].f0 q[i].f1 <;> simp [zp]
  · rw [if_neg h, if_neg h]
    rfl
theorem Z.ls_ (q : List S28) (l : List S55) (x : Int) : network_Lose.f q l x = some (ls q l x) := by
  unfold ls
  by_cases h : err q l x = 0
  · obtain ⟨hn, i, rfl, hi⟩ := err0 h
    rw [if_pos h, lose_ q l i hn hi]
    rfl
  · rw [if_neg h]
    unfold network_Lose.f
    rw [at_no q l x h, Option.bind_some]
    simp only []
    rw [if_neg h]
theorem Z.lsR_ (q : List S28) (l : List S55) (x : Int) (k : Nat) (hl : l.length < 1000000) (hk : q.length + 2 * l.length + 2 ≤ k) : sizarref48_Lose.f k q l x = some (ls q l x) := by
  unfold sizarref48_Lose.f ls
  rw [asked_ q l x k hl hk, Option.bind_some]
  by_cases h : err q l x = 0
  · obtain ⟨hn, i, rfl, hi⟩ := err0 h
    rw [if_pos h, if_pos h, withoutR_ q l i (net_len hn) hi, Option.bind_some]
    rfl
  · rw [if_neg h, if_neg h]
theorem Z.rp_ (q : List S28) (l : List S55) (x : Int) : network_Repeat.f q l x = some (rp q l x) := by
  unfold rp
  by_cases h : err q l x = 0
  · obtain ⟨hn, i, rfl, hi⟩ := err0 h
    rw [if_pos h, repeat_ q l i hn hi, rd28 hi]
  · rw [if_neg h]
    unfold network_Repeat.f
    rw [at_no q l x h, Option.bind_some]
    simp only []
    rw [if_neg h]
theorem Z.rpR_ (q : List S28) (l : List S55) (x : Int) (k : Nat) (hl : l.length < 1000000) (hk : q.length + 2 * l.length + 2 ≤ k) : sizarref48_Repeat.f k q l x = some (rp q l x) := by
  unfold sizarref48_Repeat.f rp
  rw [asked_ q l x k hl hk, Option.bind_some]
  by_cases h : err q l x = 0
  · obtain ⟨hn, i, rfl, hi⟩ := err0 h
    rw [if_pos h, if_pos h, if_pos (by omega), if_pos (by omega), sendR_ q l _ k hl hk, Option.bind_some]
  · rw [if_neg h, if_neg h]
/-! The links that are cut, after one of them was cut or mended. -/
theorem Z.cutR_0 (q : List S28) (l : List S55) (a b : Int) (on : Bool) (hl : l.length < 1000000) : ∀ (n x k : Nat), n + x = 7 → n * 20 + l.length + 5 ≤ k →
    sizarref48_Cut.l0 k a b on (toldL l ⟨mn a b, mx a b⟩ on (allL x)) (x : Int) q l = some (q, toldL l ⟨mn a b, mx a b⟩ on (allL 7), 0)
  | 0, x, k + 1, h, hk => by
    unfold sizarref48_Cut.l0
    rw [if_neg (by omega), show x = 7 from by omega]
  | n + 1, x, k + 1, h, hk => by
    have inner : ∀ (r m k : Nat), m + r = 6 - x → r * 2 + 1 + (n * 20 + l.length + 5) ≤ k →
        sizarref48_Cut.l1 k a b on (toldL l ⟨mn a b, mx a b⟩ on (allL x ++ rowL x m)) (x : Int) ((x + 1 + m : Nat) : Int) q l = some (q, toldL l ⟨mn a b, mx a b⟩ on (allL 7), 0) := by
      intro r
      induction r with
      | zero =>
        intro m k hm hk
        obtain ⟨k, rfl⟩ : ∃ j, k = j + 1 := ⟨k - 1, by omega⟩
        unfold sizarref48_Cut.l1
        rw [if_neg (by omega), w64 x (by omega), show m = 6 - x from by omega, show allL x ++ rowL x (6 - x) = allL (x + 1) from rfl]
        exact cutR_0 q l a b on hl n (x + 1) k (by omega) (by omega)
      | succ r ih =>
        intro m k hm hk
        obtain ⟨k, rfl⟩ : ∃ j, k = j + 1 + 1 := ⟨k - 2, by omega⟩
        have hlen := toldL_len l ⟨mn a b, mx a b⟩ on x m (by omega) (by omega)
        have hn := ih (m + 1) k (by omega) (by omega)
        rw [rowL, ← List.append_assoc] at hn
        have hmn : mn (x : Int) ((x + 1 + m : Nat) : Int) = (x : Int) := by unfold mn; split <;> omega
        have hmx : mx (x : Int) ((x + 1 + m : Nat) : Int) = ((x + 1 + m : Nat) : Int) := by unfold mx; split <;> omega
        obtain ⟨y, hy⟩ : ∃ y : Nat, y = x + 1 + m := ⟨_, rfl⟩
        rw [← hy] at hn hmn hmx ⊢
        rw [show x + 1 + (m + 1) = y + 1 from by omega] at hn
        unfold sizarref48_Cut.l1
        rw [if_pos (by omega), iscut_ q l _ _ (k + 1) hl (by omega), Option.bind_some]
        have hc : cut l (x : Int) (y : Int) = cont l (x : Int) (y : Int) := by unfold cut; rw [hmn, hmx]
        rw [hc]
        have hj : (if (x : Int) = mn a b then sizarref48_Cut.j3 (k + 1) a b on (toldL l ⟨mn a b, mx a b⟩ on (allL x ++ rowL x m)) (x : Int) (y : Int) (cont l (x : Int) (y : Int)) ((y : Int) == mx a b) q l
            else sizarref48_Cut.j3 (k + 1) a b on (toldL l ⟨mn a b, mx a b⟩ on (allL x ++ rowL x m)) (x : Int) (y : Int) (cont l (x : Int) (y : Int)) false q l) =
            sizarref48_Cut.j3 (k + 1) a b on (toldL l ⟨mn a b, mx a b⟩ on (allL x ++ rowL x m)) (x : Int) (y : Int) (cont l (x : Int) (y : Int)) (((x : Int) == mn a b) && ((y : Int) == mx a b)) q l := by
          by_cases hx : (x : Int) = mn a b
          · rw [if_pos hx, beq_iff_eq.mpr hx, Bool.true_and]
          · rw [if_neg hx, beq_eq_false_iff_ne.mpr hx, Bool.false_and]
        rw [hj, sizarref48_Cut.j3, w64 y (by omega)]
        have hkeep : keepL l ⟨mn a b, mx a b⟩ on ⟨(x : Int), (y : Int)⟩ = if (((x : Int) == mn a b) && ((y : Int) == mx a b)) = true then on else cont l (x : Int) (y : Int) := rfl
        by_cases hq : (((x : Int) == mn a b) && ((y : Int) == mx a b)) = true
        · rw [if_pos hq] at hkeep
          rw [if_pos hq]
          cases on with
          | true => rw [if_pos rfl, if_pos (by omega), ← toldL_yes hkeep]; exact hn
          | false => rw [if_neg (by decide), ← toldL_no hkeep]; exact hn
        · rw [if_neg hq] at hkeep
          rw [if_neg hq]
          cases hv : cont l (x : Int) (y : Int) with
          | true => rw [hv] at hkeep; rw [if_pos rfl, if_pos (by omega), ← toldL_yes hkeep]; exact hn
          | false => rw [hv] at hkeep; rw [if_neg (by decide), ← toldL_no hkeep]; exact hn
    have := inner (6 - x) 0 k (by omega) (by omega)
    unfold sizarref48_Cut.l0
    rw [if_pos (by omega), w64 x (by omega)]
    rwa [rowL, List.append_nil, Nat.add_zero] at this
/-- What Cut answers. -/
def Z.ct (q : List S28) (l : List S55) (a b : Int) (on : Bool) : List S28 × List S55 × Int := if net q l = true then (if 0 ≤ a ∧ a < 7 ∧ 0 ≤ b ∧ b < 7 ∧ a ≠ b then (q, toldL l ⟨mn a b, mx a b⟩ on (allL 7), 0) else ([], [], 1)) else ([], [], 480)
theorem Z.valid_ (a b : Int) : network_link_valid.f (mn a b) (mx a b) = some (decide (0 ≤ a ∧ a < 7 ∧ 0 ≤ b ∧ b < 7 ∧ a ≠ b)) := by
  unfold network_link_valid.f mn mx
  repeat' split
  all_goals (congr 1; first | (rw [decide_eq_decide]; omega) | (symm; rw [decide_eq_false_iff_not]; omega))
theorem Z.ct_ (q : List S28) (l : List S55) (a b : Int) (on : Bool) : network_Cut.f q l a b on = some (ct q l a b on) := by
  unfold network_Cut.f ct network_between.f
  rw [check_, Option.bind_some, Option.bind_some, valid_, Option.bind_some, chk]
  by_cases hn : net q l = true
  · rw [if_pos hn, if_pos hn, if_pos rfl]
    by_cases hv : 0 ≤ a ∧ a < 7 ∧ 0 ≤ b ∧ b < 7 ∧ a ≠ b
    · rw [if_pos (decide_eq_true hv), if_pos hv]
    · rw [if_neg (by rw [decide_eq_false hv]; decide), if_neg hv]
  · rw [if_neg hn, if_neg hn, if_neg (by decide)]
theorem Z.ctR_ (q : List S28) (l : List S55) (a b : Int) (on : Bool) (k : Nat) (hl : l.length < 1000000) (hk : q.length + 2 * l.length + 2 ≤ k) (hk2 : l.length + 160 ≤ k) : sizarref48_Cut.f k q l a b on = some (ct q l a b on) := by
  have hc : ∀ x : Int, sizarref48_Campus.f x = some (decide (0 ≤ x ∧ x < 7)) := fun x => by
    unfold sizarref48_Campus.f
    split
    all_goals (congr 1; first | (rw [decide_eq_decide]; omega) | (symm; rw [decide_eq_false_iff_not]; omega))
  obtain ⟨m, rfl⟩ : ∃ m, k = m + 1 := ⟨k - 1, by omega⟩
  have hend := cutR_0 q l a b on hl 7 0 m (by omega) (by omega)
  rw [show toldL l ⟨mn a b, mx a b⟩ on (allL 0) = [] from rfl, show ((0 : Nat) : Int) = 0 from rfl] at hend
  have hj : ∀ e : Bool, sizarref48_Cut.j0 (m + 1) a b on e q l = if e = true then some ([], [], 1) else some (q, toldL l ⟨mn a b, mx a b⟩ on (allL 7), 0) := fun e => by
    rw [sizarref48_Cut.j0, hend]
  unfold sizarref48_Cut.f ct
  rw [checkR_ q l (m + 1) hl (by omega), Option.bind_some, hc, hc, Option.bind_some, Option.bind_some, chk, hj, hj]
  by_cases hn : net q l = true
  · rw [if_pos hn, if_pos hn, if_pos rfl, if_pos (c := (true = true)) rfl]
    by_cases h1 : 0 ≤ a ∧ a < 7
    · rw [if_pos (decide_eq_true h1)]
      by_cases h2 : 0 ≤ b ∧ b < 7
      · rw [if_pos (decide_eq_true h2)]
        by_cases h3 : a = b
        · rw [if_pos (beq_iff_eq.mpr h3), if_neg (fun h => h.2.2.2.2 h3)]
        · rw [if_neg (by simpa using h3), if_pos ⟨h1.1, h1.2, h2.1, h2.2, h3⟩]
      · rw [if_neg (by rw [decide_eq_false h2]; decide), if_neg (fun h => h2 ⟨h.2.2.1, h.2.2.2.1⟩)]
    · rw [if_neg (by rw [decide_eq_false h1]; decide), if_neg (fun h => h1 ⟨h.1, h.2.1⟩)]
  · rw [if_neg hn, if_neg hn, if_neg (by decide)]
theorem Z.wo_le (q : List S28) (i : Nat) : (wo q i).length ≤ q.length := by
  unfold wo
  rw [List.length_append, List.length_take, List.length_drop]
  omega
theorem Z.allL7 : (allL 7).length = 21 := by decide
theorem Z.ct_len (q : List S28) (l : List S55) (a b : Int) (on : Bool) : (ct q l a b on).1.length ≤ q.length ∧ (ct q l a b on).2.1.length ≤ 21 := by
  unfold ct
  have h := List.length_filter_le (keepL l ⟨mn a b, mx a b⟩ on) (allL 7)
  rw [allL7] at h
  repeat' split
  all_goals first | exact ⟨Nat.le_refl _, h⟩ | exact ⟨Nat.zero_le _, Nat.zero_le _⟩
theorem Z.dl_len (q : List S28) (l : List S55) (x : Int) : (dl q l x).2.1.length ≤ q.length ∧ (dl q l x).2.2.1.length ≤ l.length := by
  unfold dl
  split
  · exact ⟨wo_le q _, Nat.le_refl _⟩
  · exact ⟨Nat.zero_le _, Nat.zero_le _⟩
theorem Z.ls_len (q : List S28) (l : List S55) (x : Int) : (ls q l x).1.length ≤ q.length ∧ (ls q l x).2.1.length ≤ l.length := by
  unfold ls
  split
  · exact ⟨wo_le q _, Nat.le_refl _⟩
  · exact ⟨Nat.zero_le _, Nat.zero_le _⟩
theorem Z.rp_len (q : List S28) (l : List S55) (x : Int) (hq : q.length ≤ 40) (hl : l.length ≤ 40) : (rp q l x).1.length ≤ 41 ∧ (rp q l x).2.1.length ≤ 40 := by
  unfold rp
  split
  · exact snd_len _ hq hl
  · exact ⟨Nat.zero_le _, Nat.zero_le _⟩
theorem Z.mv_1 (q : List S28) (l : List S55) (hq : q.length ≤ 40) (hl : l.length ≤ 40) (xs : List Int) (hxs : xs.length ≤ 10) : ∀ (n i k : Nat), n + i = xs.length → n * 3 + 200 ≤ k → sizarlaw48_NetworkMoveSpec.l1 k xs (xs.length : Int) (i : Int) q l = some true
  | 0, i, k + 1, h, hk => by
    unfold sizarlaw48_NetworkMoveSpec.l1
    rw [if_neg (by omega)]
  | n + 1, i, k + 1, h, hk => by
    obtain ⟨k, rfl⟩ : ∃ j, k = j + 1 + 1 := ⟨k - 2, by omega⟩
    have ih := mv_1 q l hq hl xs hxs n (i + 1) k (by omega) (by omega)
    obtain ⟨x, hx⟩ : ∃ x, rd xs (i : Int) = x := ⟨_, rfl⟩
    obtain ⟨d1, d2⟩ := dl_len q l x
    obtain ⟨s1, s2⟩ := ls_len q l x
    obtain ⟨r1, r2⟩ := rp_len q l x hq hl
    unfold sizarlaw48_NetworkMoveSpec.l1
    rw [hx, if_pos (by omega), if_pos (by omega), if_pos (by omega), dl_ q l x (by omega), Option.bind_some, dlR_ q l x (k + 1 + 1) (by omega) (by omega), Option.bind_some]
    simp only []
    rw [same_packet, Option.bind_some, if_pos rfl, same_ _ _ (k + 1 + 1) (by omega) (by omega) (by omega), Option.bind_some, if_pos rfl, sizarlaw48_NetworkMoveSpec.j4, if_neg (by simp), ls_, Option.bind_some, lsR_ q l x (k + 1) (by omega) (by omega), Option.bind_some,
      same_ _ _ (k + 1) (by omega) (by omega) (by omega), Option.bind_some, if_pos rfl, sizarlaw48_NetworkMoveSpec.j5, if_neg (by simp), rp_, Option.bind_some, rpR_ q l x k (by omega) (by omega), Option.bind_some, same_ _ _ k (by omega) (by omega) (by omega), Option.bind_some, if_pos rfl, if_pos rfl, w64 i (by omega)]
    exact ih
theorem Z.mv_0 (q : List S28) (l : List S55) (hq : q.length ≤ 40) (hl : l.length ≤ 40) : ∀ (n i k : Nat) (xs : List Int), n + i = 3 → xs.length ≤ i + 1 → n + 240 ≤ k → sizarlaw48_NetworkMoveSpec.l0 k xs (i : Int) q l = some true
  | n, i, k + 1, xs, h, hx, hk => by
    obtain ⟨k, rfl⟩ : ∃ j, k = j + 1 := ⟨k - 1, by omega⟩
    have hend : sizarlaw48_NetworkMoveSpec.j2 (k + 1) xs q l = some true := by
      rw [sizarlaw48_NetworkMoveSpec.j2]
      exact mv_1 q l hq hl xs (by omega) xs.length 0 k (by omega) (by omega)
    unfold sizarlaw48_NetworkMoveSpec.l0
    by_cases h1 : (i : Int) < (q.length : Int)
    · rw [if_pos h1]
      by_cases h2 : (i : Int) < 3
      · rw [if_pos h2, if_pos (by omega), w64 i (by omega)]
        cases n with
        | zero => omega
        | succ n => exact mv_0 q l hq hl n (i + 1) (k + 1) (xs ++ [(i : Int)]) (by omega) (by simp; omega) (by omega)
      · rw [if_neg h2]; exact hend
    · rw [if_neg h1]; exact hend
theorem Pu.NetworkMoveSpec (y : SN) (at_ : Int) (w1 : (Lit.int .i64 at_).wf = true) (a : Int) (w2 : (Lit.int .i64 a).wf = true) (b : Int) (w3 : (Lit.int .i64 b).wf = true) (on : Bool) : ∃ k, sizarlaw48_NetworkMoveSpec.f k y.q y.l at_ a b on = some true := by
  obtain ⟨q, l⟩ := y
  refine ⟨300, ?_⟩
  unfold sizarlaw48_NetworkMoveSpec.f
  simp only []
  rw [sane, Option.bind_some, if_pos rfl, few, Option.bind_some]
  by_cases h : q.length ≤ 40 ∧ l.length ≤ 40
  · obtain ⟨c1, c2⟩ := ct_len q l a b on
    obtain ⟨h1, h2⟩ := h
    rw [if_pos (decide_eq_true ⟨h1, h2⟩), ct_, Option.bind_some, ctR_ q l a b on 300 (by omega) (by omega) (by omega), Option.bind_some, same_ _ _ 300 (by omega) (by omega) (by omega), Option.bind_some, if_pos rfl, show (300 : Nat) = 299 + 1 from rfl, sizarlaw48_NetworkMoveSpec.j0, if_neg (by simp)]
    exact mv_0 q l h1 h2 3 0 299 [at_] (by omega) (by simp) (by omega)
  · rw [if_neg (by rw [decide_eq_false h]; decide)]
end Go.Proofs.Ytccmjndldffclaa.X
-- The row of the law NetworkMoveSpec, out of its pure proof and its walk (written by wip/mkrow.py).
namespace Go.Proofs.Ytccmjndldffclaa.networkMoveSpec
open Go.ChangeShapes Go.WideShapes Go.ChangeAt Go.RowKit Go.Proofs.YtccmjndldffclaaW.PrintWords Go.Proofs.YtccmjndldffclaaW.Opn Go.Proofs.Ytccmjndldffclaa.X
open Go.ChangeMaps (open_string shut_string)
set_option linter.unusedVariables false
theorem own : ownKnob Try.prog.godebug = none := by kernel_rfl
theorem laidOut : laidOutB Try.prog = true := by kernel_rfl
set_option maxRecDepth 100000 in
theorem lifted (os : Os) (started : os.Started) (H : Type) (enc : TypeId × Value → H) :
    ReturnsInHanded {} Try.checked os 6 .any (Rows.networkMoveSpecSpec.pre6 enc Try.prog Try.f6 Rows.networkMoveSpecRow.domain false) (Rows.networkMoveSpecSpec.post enc Try.prog Try.f6 false true false false) := by
  refine returnsInHanded_of_change_sized (C := Try.checked) own started (by kernel_rfl) Try.func6
    (ChangeSpec.witness6 (enc := enc) (C := Try.checked) false ⟨#[], #[.agg #[.slice none 0 0,.slice none 0 0], .int .i64 0, .int .i64 0, .int .i64 0, .bool false], []⟩ 8 (by kernel_rfl) (by kernel_rfl) (by kernel_rfl) (by kernel_rfl)) ?_
  intro W base args ds gs before hval0 hW hcnd hsz0 _
  have hval : ∀ (j : Nat) t v, Try.f6.params[j]? = some t → args[j]? = some v → Value.okWide Try.prog W .any base t v := hval0
  have hW' := hW
  obtain ⟨p, q, hA0, hV, rfl, hfz, hnd⟩ := hW
  have hA : DataW.TrodAll enc Try.prog W 0 (fun _ => true) true Try.f6.params.toList args.toList ds p := hA0
  rw [Try.params6] at hA hval
  obtain ⟨v0, vs0, d0, ds0, p0, q0, hargs, rfl, rfl, h0, r0⟩ := trodAll_cons hA
  obtain ⟨v1, vs1, d1, ds1, p1, q1, rfl, rfl, rfl, h1, r1⟩ := trodAll_cons r0
  obtain ⟨v2, vs2, d2, ds2, p2, q2, rfl, rfl, rfl, h2, r2⟩ := trodAll_cons r1
  obtain ⟨v3, vs3, d3, ds3, p3, q3, rfl, rfl, rfl, h3, r3⟩ := trodAll_cons r2
  obtain ⟨v4, vs4, d4, ds4, p4, q4, rfl, rfl, rfl, h4, r4⟩ := trodAll_cons r3
  obtain ⟨rfl, rfl, rfl⟩ := trodAll_nil r4
  obtain rfl : args = #[v0, v1, v2, v3, v4] := by cases args; simp_all
  obtain ⟨rfl, rfl⟩ := trodVars_none hV
  have k0 := h0
  have lt0 : ∀ x ∈ p0, x.block < W.heap.size := by obtain ⟨m, hm⟩ := k0; exact DataW.trod_lt m _ _ _ hm
  obtain ⟨y0, cs0, rfl, hk0, ho0⟩ := Opens.arg_struct op25 Try.underlying25 (hval 0 25 v0 rfl rfl) h0
  obtain ⟨An0, cn0, Am0, cm0, rfl, lq0, gq0, ll0, gl0⟩ := kN_open hk0
  have k1 := h1
  have lt1 : ∀ x ∈ p1, x.block < W.heap.size := by obtain ⟨m, hm⟩ := k1; exact DataW.trod_lt m _ _ _ hm
  obtain ⟨a1, rfl, rfl, rfl, w1⟩ := open_int Try.underlying3 (hval 1 3 v1 rfl rfl) h1
  have k2 := h2
  have lt2 : ∀ x ∈ p2, x.block < W.heap.size := by obtain ⟨m, hm⟩ := k2; exact DataW.trod_lt m _ _ _ hm
  obtain ⟨a2, rfl, rfl, rfl, w2⟩ := open_int Try.underlying3 (hval 2 3 v2 rfl rfl) h2
  have k3 := h3
  have lt3 : ∀ x ∈ p3, x.block < W.heap.size := by obtain ⟨m, hm⟩ := k3; exact DataW.trod_lt m _ _ _ hm
  obtain ⟨a3, rfl, rfl, rfl, w3⟩ := open_int Try.underlying3 (hval 3 3 v3 rfl rfl) h3
  have k4 := h4
  have lt4 : ∀ x ∈ p4, x.block < W.heap.size := by obtain ⟨m, hm⟩ := k4; exact DataW.trod_lt m _ _ _ hm
  obtain ⟨a4, rfl, rfl, rfl⟩ := open_bool Try.underlying4 (hval 4 4 v4 rfl rfl) h4
  clear hA0 hval0 hsz0
  obtain ⟨k, hk_⟩ := Pu.NetworkMoveSpec y0 a1 w1 a2 w2 a3 w3 a4
  refine (sizarlaw48_NetworkMoveSpec.calls k An0 cn0 y0.q Am0 cm0 y0.l a1 a2 a3 a4 true W gq0 lq0 gl0 ll0 hk_).mono fun e W' ⟨he, bel0⟩ => ?_
  have bel : Below W.heap.size W W' := bel0
  subst he
  exact ⟨_, rfl, _, _, _, [], _, [], hW', trodAll_mk1 (shut_bool Try.underlying4 _), (trodAll_cons_mk (Below.trod laidOut (by kernel_rfl) (of_decide_eq_true (by kernel_rfl)) k0 bel lt0) (trodAll_cons_mk (Below.trod laidOut (by kernel_rfl) (of_decide_eq_true (by kernel_rfl)) k1 bel lt1) (trodAll_cons_mk (Below.trod laidOut (by kernel_rfl) (of_decide_eq_true (by kernel_rfl)) k2 bel lt2) (trodAll_cons_mk (Below.trod laidOut (by kernel_rfl) (of_decide_eq_true (by kernel_rfl)) k3 bel lt3) (trodAll_cons_mk (Below.trod laidOut (by kernel_rfl) (of_decide_eq_true (by kernel_rfl)) k4 bel lt4) trodAll_mk0))))), rfl, bel.frame _, fun h => by cases h⟩
theorem over : Rows.networkMoveSpecRow.holds Try.pinned (OpenSpec.ofChange Rows.networkMoveSpecSpec) :=
  OpenClaim.holds_of_wide 6 Try.f6 rfl rfl rfl rfl rfl rfl rfl ⟨rfl, rfl, rfl, rfl, rfl⟩ rfl rfl rfl rfl rfl (by kernel_rfl) Try.func6 (by kernel_rfl)
    (of_decide_eq_true (by kernel_rfl)) (by unfold Func.isWrapper; first | (rw [if_pos (by decide +kernel)]; kernel_rfl) | (rw [if_neg (by decide +kernel)]; exact ⟨rfl, rfl⟩))
    (fun os started H enc _ => lifted os started H enc)
end Go.Proofs.Ytccmjndldffclaa.networkMoveSpec
namespace Go.Proofs.Ytccmjndldffclaa
/-- The row, under a short name, for the claim. -/
theorem networkMoveSpec_holds : Rows.NetworkMoveSpecSaid := networkMoveSpec.over
#print axioms networkMoveSpec_holds
end Go.Proofs.Ytccmjndldffclaa
