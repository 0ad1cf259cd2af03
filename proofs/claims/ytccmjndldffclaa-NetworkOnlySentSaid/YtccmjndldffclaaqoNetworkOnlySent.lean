/- The law NetworkOnlySent is proved, whatever its input: no condition. -/
import Derived.Test.Ytccmjndldffclaaqob6
import Derived.ChangeOld
import Derived.OpenShut
import Derived.ProofKit
import Derived.ShutString
import Derived.SizedLaws
import Derived.Test.YtccmjndldffclaaRows
-- What the functions of the package network and of its reference compute, in plain lists.
namespace Go.Proofs.Ytccmjndldffclaa.X
open Go.RowKit Go.Proofs.YtccmjndldffclaaW.PrintWords
set_option linter.unusedVariables false
set_option linter.unusedSimpArgs false
namespace Z
def pok (p : S28) : Bool := decide (0 ≤ p.f0 ∧ p.f0 < 7 ∧ 0 ≤ p.f1 ∧ p.f1 < 7 ∧ p.f0 ≠ p.f1 ∧ (p.f2.length : Int) ≤ 1048576)
def lok (x : S55) : Bool := decide (0 ≤ x.f0 ∧ x.f0 < x.f1 ∧ x.f1 < 7)
def llt (x y : S55) : Bool := decide (x.f0 < y.f0 ∨ x.f0 = y.f0 ∧ x.f1 < y.f1)
/-- The links from the place a on. -/
def lks (l : List S55) : Nat → Nat → Bool
  | 0, _ => true
  | n + 1, a => lok (rd_T55 l a) && (decide (a = 0) || llt (rd_T55 l ((a - 1 : Nat) : Int)) (rd_T55 l a)) && lks l n (a + 1)
def net (q : List S28) (l : List S55) : Bool := decide (q.length ≤ 4096) && q.all pok && lks l l.length 0
def chk (q : List S28) (l : List S55) : Int := if net q l = true then 0 else 480
theorem packet_ (a b : Int) (d : List Int) : network_packet.f a b d = some (pok ⟨a, b, d⟩) := by
  have hv : network_link_valid.f (mn a b) (mx a b) = some (decide (0 ≤ a ∧ a < 7 ∧ 0 ≤ b ∧ b < 7 ∧ a ≠ b)) := by
    unfold network_link_valid.f mn mx
    repeat' split
    all_goals (congr 1; first | (rw [decide_eq_decide]; omega) | (symm; rw [decide_eq_false_iff_not]; omega))
  unfold network_packet.f network_between.f pok
  rw [Option.bind_some, hv, Option.bind_some]
  by_cases h : 0 ≤ a ∧ a < 7 ∧ 0 ≤ b ∧ b < 7 ∧ a ≠ b
  · rw [if_pos (decide_eq_true h)]
    congr 1
    rw [decide_eq_decide]
    simp only []
    omega
  · rw [if_neg (by rw [decide_eq_false h]; decide)]
    congr 1
    symm
    rw [decide_eq_false_iff_not]
    simp only []
    omega
theorem w64 (i : Nat) (h : i < 1000000) : wrap64 ((i : Int) + 1) = ((i + 1 : Nat) : Int) := by unfold wrap64; omega
theorem w64' (i : Nat) (h : i < 1000000) : wrap64 (((i + 1 : Nat) : Int) - 1) = (i : Int) := by unfold wrap64; omega
theorem rd28 {l : List S28} {i : Nat} (h : i < l.length) : rd_T28 l (i : Int) = l[i] := by simp [rd_T28, List.getD_eq_getElem?_getD, List.getElem?_eq_getElem h]
theorem rd55 {l : List S55} {i : Nat} (h : i < l.length) : rd_T55 l (i : Int) = l[i] := by simp [rd_T55, List.getD_eq_getElem?_getD, List.getElem?_eq_getElem h]
theorem any_ (q : List S28) (hq : q.length ≤ 4096) : ∀ (n i k : Nat), n + i = q.length → n + 1 ≤ k → ∃ t, api_Packet_43.l0 k q (q.length : Int) (i : Int) = some t ∧ (decide (t ≥ 0) = !(q.drop i).all pok)
  | 0, i, k + 1, h, hk => by
    unfold api_Packet_43.l0
    rw [if_neg (by omega), List.drop_eq_nil_of_le (by omega)]
    exact ⟨_, rfl, by simp⟩
  | n + 1, i, k + 1, h, hk => by
    have hi : i < q.length := by omega
    obtain ⟨t, h1, h2⟩ := any_ q hq n (i + 1) k (by omega) (by omega)
    unfold api_Packet_43.l0 network_Check_1.f
    rw [if_pos (by omega), if_pos (by omega), if_pos (by omega), packet_, Option.bind_some, Option.bind_some, w64 i (by omega), h1, rd28 hi, List.drop_eq_getElem_cons hi, List.all_cons]
    cases hp : pok q[i] with
    | true => exact ⟨t, by simp [hp], by rw [h2]; simp [hp]⟩
    | false => exact ⟨i, by simp [hp], by simp [hp]⟩
theorem chkA_ (l : List S55) : ∀ (n a : Nat), chkA l n a = some (if lks l n a = true then 0 else 480)
  | 0, a => rfl
  | n + 1, a => by
    have ih := chkA_ l n (a + 1)
    unfold chkA lks network_link_valid.f
    rw [ih]
    generalize rd_T55 l a = x
    generalize rd_T55 l ((a - 1 : Nat) : Int) = p
    have hc : (0 < a ∧ 0 ≤ cmp2 p x) ↔ ¬ (a = 0 ∨ llt p x = true) := by
      unfold cmp2 llt
      rw [decide_eq_true_eq]
      repeat' split
      all_goals omega
    have hv : (if x.f0 ≥ 0 then (if x.f0 < x.f1 then some (decide (x.f1 < 7)) else some false) else some false) = some (lok x) := by
      unfold lok
      by_cases h1 : x.f0 ≥ 0 <;> by_cases h2 : x.f0 < x.f1 <;> simp [h1, h2]
    rw [hv, Option.bind_some]
    cases hx : lok x with
    | false => simp
    | true =>
      by_cases h : a = 0 ∨ llt p x = true
      · rw [if_pos rfl, if_neg (by rw [hc]; exact not_not_intro h)]
        have : (decide (a = 0) || llt p x) = true := by simpa using h
        rw [this]
        simp
      · rw [if_pos rfl, if_pos (hc.2 h)]
        have : (decide (a = 0) || llt p x) = false := by simpa using h
        rw [this]
        simp
theorem check_ (q : List S28) (l : List S55) : network_Check.f q l = some (chk q l) := by
  unfold network_Check.f chk net
  by_cases h : q.length ≤ 4096
  · rw [if_neg (by omega)]
    obtain ⟨t, h1, h2⟩ := any_ q h q.length 0 (q.length + 5) (by omega) (by omega)
    unfold api_Packet_30.f api_Packet_43.f
    rw [show ((0 : Nat) : Int) = 0 from rfl] at h1
    rw [h1, Option.bind_some, Option.bind_some, h2, List.drop_zero, chkA_]
    cases q.all pok <;> simp [h]
  · rw [if_pos (by omega)]
    simp [h]
theorem same_packet (p : S28) : sizarref48_SamePacket.f p.f0 p.f1 p.f2 p.f0 p.f1 p.f2 = some true := by
  unfold sizarref48_SamePacket.f
  simp
theorem same1 (q : List S28) (l : List S55) (hl : l.length < 1000000) : ∀ (n i k : Nat), n + i = l.length → n + 1 ≤ k → sizarref48_Same.l1 k (i : Int) q l q l = some true
  | 0, i, k + 1, h, hk => by
    unfold sizarref48_Same.l1
    rw [if_neg (by omega)]
  | n + 1, i, k + 1, h, hk => by
    unfold sizarref48_Same.l1
    rw [if_pos (by omega), if_pos (by omega), if_pos (by omega), w64 i (by omega), same1 q l hl n (i + 1) k (by omega) (by omega)]
    simp
theorem same0 (q : List S28) (l : List S55) (hq : q.length < 1000000) (hl : l.length < 1000000) : ∀ (n i k : Nat), n + i = q.length → n + 1 + (l.length + 1) ≤ k → sizarref48_Same.l0 k (i : Int) q l q l = some true
  | 0, i, k + 1, h, hk => by
    unfold sizarref48_Same.l0
    rw [if_neg (by omega)]
    have := same1 q l hl l.length 0 k (by omega) (by omega)
    rwa [show ((0 : Nat) : Int) = 0 from rfl] at this
  | n + 1, i, k + 1, h, hk => by
    unfold sizarref48_Same.l0
    rw [if_pos (by omega), if_pos (by omega), if_pos (by omega), same_packet, Option.bind_some, w64 i (by omega), same0 q l hq hl n (i + 1) k (by omega) (by omega)]
    simp
theorem same_ (q : List S28) (l : List S55) (k : Nat) (hq : q.length < 1000000) (hl : l.length < 1000000) (hk : q.length + l.length + 3 ≤ k) : sizarref48_Same.f k q l q l = some true := by
  obtain ⟨m, rfl⟩ : ∃ m, k = m + 1 := ⟨k - 1, by omega⟩
  have := same0 q l hq hl q.length 0 m (by omega) (by omega)
  rw [show ((0 : Nat) : Int) = 0 from rfl] at this
  unfold sizarref48_Same.f
  rw [if_pos rfl]
  simp [sizarref48_Same.j0, this]
/-- What Send leaves. -/
def snd (q : List S28) (l : List S55) (p : S28) : List S28 × List S55 × Int := if net q l = true ∧ pok p = true then (if q.length = 4096 then ([], [], 2) else (q ++ [p], l, 0)) else ([], [], 480)
theorem net_len {q : List S28} {l : List S55} (h : net q l = true) : q.length ≤ 4096 := by
  simp [net] at h
  exact h.1.1
theorem send_ (q : List S28) (l : List S55) (p : S28) : network_Send.f q l p.f0 p.f1 p.f2 = some (snd q l p) := by
  unfold network_Send.f snd
  rw [check_, Option.bind_some, packet_, Option.bind_some, chk]
  cases hn : net q l with
  | false => simp
  | true =>
    have hl := net_len hn
    cases hp : pok p with
    | false => simp [hp]
    | true =>
      by_cases h : q.length = 4096
      · simp [h, hp]
      · rw [if_pos rfl, if_pos rfl, if_pos rfl, if_neg (by omega), if_pos (by omega), if_pos ⟨rfl, rfl⟩, if_neg h]
end Z
end Go.Proofs.Ytccmjndldffclaa.X
-- The laws of the package network: what the program's functions compute answers as the statements say.
namespace Go.Proofs.Ytccmjndldffclaa.X
open Go.RowKit Go.Proofs.YtccmjndldffclaaW.PrintWords
set_option linter.unusedVariables false
set_option linter.unusedSimpArgs false
open Z
theorem Z.sane : sizarlaw48_sane.f 300 = some true := by decide +kernel
end Go.Proofs.Ytccmjndldffclaa.X
-- What the functions that move packets compute, in plain lists.
namespace Go.Proofs.Ytccmjndldffclaa.X
open Go.RowKit Go.Proofs.YtccmjndldffclaaW.PrintWords
set_option linter.unusedVariables false
set_option linter.unusedSimpArgs false
namespace Z
/-- Without the packet at a place. -/
def wo (q : List S28) (i : Nat) : List S28 := q.take i ++ q.drop (i + 1)
theorem at_ (q : List S28) (l : List S55) (i : Nat) (hn : net q l = true) (hi : i < q.length) : network_at.f q l (i : Int) = some (q[i].f0, q[i].f1, q[i].f2, 0) := by
  unfold network_at.f
  rw [check_, Option.bind_some, chk, if_pos hn, if_pos rfl, if_neg (by omega), if_neg (by omega), if_pos (by omega), if_pos (by omega), rd28 hi]
theorem without_ (q : List S28) (l : List S55) (i : Nat) (hn : net q l = true) (hi : i < q.length) : network_without.f q l (i : Int) = some (wo q i, l) := by
  have := net_len hn
  unfold network_without.f wo
  rw [if_pos ⟨by omega, by omega, by omega⟩]
  rfl
def zp : S28 := ⟨0, 0, []⟩
/-- Is the link between two campuses cut? -/
def cut (l : List S55) (a b : Int) : Bool := cont l (mn a b) (mx a b)
/-- The packet that is delivered. -/
def got (l : List S55) (p : S28) : S28 := if cut l p.f0 p.f1 = true then zp else p
theorem deliver_ (q : List S28) (l : List S55) (i : Nat) (hl : l.length < 1000000) (hn : net q l = true) (hi : i < q.length) : network_Deliver.f q l (i : Int) = some ((got l q[i]).f0, (got l q[i]).f1, (got l q[i]).f2, wo q i, l, 0) := by
  unfold network_Deliver.f
  rw [at_ q l i hn hi, Option.bind_some]
  simp only []
  rw [if_pos trivial]
  unfold network_between.f
  rw [Option.bind_some, contains_cont _ _ _ (by omega), Option.bind_some, without_ q l i hn hi, Option.bind_some]
  unfold got cut
  cases cont l (mn q[i].f0 q[i].f1) (mx q[i].f0 q[i].f1) <;> simp [zp]
theorem lose_ (q : List S28) (l : List S55) (i : Nat) (hn : net q l = true) (hi : i < q.length) : network_Lose.f q l (i : Int) = some (wo q i, l, 0) := by
  unfold network_Lose.f
  rw [at_ q l i hn hi, Option.bind_some]
  simp only []
  rw [if_pos trivial, without_ q l i hn hi, Option.bind_some]
theorem repeat_ (q : List S28) (l : List S55) (i : Nat) (hn : net q l = true) (hi : i < q.length) : network_Repeat.f q l (i : Int) = some (snd q l q[i]) := by
  unfold network_Repeat.f
  rw [at_ q l i hn hi, Option.bind_some]
  simp only []
  rw [if_pos trivial, send_, Option.bind_some]
theorem net_sub {q q' : List S28} {l : List S55} (hn : net q l = true) (hs : ∀ p ∈ q', p ∈ q) (hl : q'.length ≤ 4096) : net q' l = true := by
  simp only [net, Bool.and_eq_true, List.all_eq_true, decide_eq_true_eq] at hn ⊢
  exact ⟨⟨hl, fun p hp => hn.1.2 p (hs p hp)⟩, hn.2⟩
theorem wo_len (q : List S28) (i : Nat) (hi : i < q.length) : (wo q i).length + 1 = q.length := by
  unfold wo
  rw [List.length_append, List.length_take, List.length_drop]
  omega
theorem wo_sub (q : List S28) (i : Nat) : ∀ p ∈ wo q i, p ∈ q := by
  intro p hp
  rcases List.mem_append.1 hp with h | h
  · exact List.mem_of_mem_take h
  · exact List.mem_of_mem_drop h
theorem net_wo {q : List S28} {l : List S55} (hn : net q l = true) (i : Nat) (hi : i < q.length) : net (wo q i) l = true :=
  net_sub hn (wo_sub q i) (by have := wo_len q i hi; have := net_len hn; omega)
theorem net_app {q : List S28} {l : List S55} (hn : net q l = true) {p : S28} (hp : pok p = true) (hq : q.length < 4096) : net (q ++ [p]) l = true := by
  simp only [net, Bool.and_eq_true, List.all_eq_true, decide_eq_true_eq] at hn ⊢
  refine ⟨⟨by simp; omega, fun x hx => ?_⟩, hn.2⟩
  rcases List.mem_append.1 hx with h | h
  · exact hn.1.2 x h
  · rw [List.mem_singleton.1 h]; exact hp
end Z
end Go.Proofs.Ytccmjndldffclaa.X
-- The functions that move packets answer as the reference's: the law.
namespace Go.Proofs.Ytccmjndldffclaa.X
open Go.RowKit Go.Proofs.YtccmjndldffclaaW.PrintWords
set_option linter.unusedVariables false
set_option linter.unusedSimpArgs false
open Z
/-- What Deliver, Lose and Repeat answer. -/
def Z.err (q : List S28) (l : List S55) (x : Int) : Int := if net q l = true then (if x < 0 then 1 else if x ≥ (q.length : Int) then 1 else 0) else 480
theorem Z.err0 {q : List S28} {l : List S55} {x : Int} (h : err q l x = 0) : net q l = true ∧ ∃ i : Nat, x = (i : Int) ∧ i < q.length := by
  unfold err at h
  split at h
  · rename_i hn
    split at h
    · cases h
    · split at h
      · cases h
      · exact ⟨hn, x.toNat, by omega, by omega⟩
  · cases h
theorem Z.at_no (q : List S28) (l : List S55) (x : Int) (h : ¬ err q l x = 0) : network_at.f q l x = some (0, 0, [], err q l x) := by
  unfold network_at.f
  rw [check_, Option.bind_some, chk]
  unfold err at h ⊢
  cases hn : net q l with
  | false => simp
  | true =>
    rw [hn] at h
    simp only [if_true] at h ⊢
    by_cases h1 : x < 0
    · rw [if_pos h1, if_pos h1]
    · by_cases h2 : x ≥ (q.length : Int)
      · rw [if_neg h1, if_neg h1, if_pos h2, if_pos h2]
      · rw [if_neg h1, if_neg h2] at h
        exact absurd rfl h
/-- What Deliver answers. -/
def Z.dl (q : List S28) (l : List S55) (x : Int) : S28 × List S28 × List S55 × Int := if err q l x = 0 then (got l (rd_T28 q x), wo q x.toNat, l, 0) else (zp, [], [], err q l x)
def Z.ls (q : List S28) (l : List S55) (x : Int) : List S28 × List S55 × Int := if err q l x = 0 then (wo q x.toNat, l, 0) else ([], [], err q l x)
def Z.rp (q : List S28) (l : List S55) (x : Int) : List S28 × List S55 × Int := if err q l x = 0 then snd q l (rd_T28 q x) else ([], [], err q l x)
theorem Z.dl_ (q : List S28) (l : List S55) (x : Int) (hl : l.length < 1000000) : network_Deliver.f q l x = some ((dl q l x).1.f0, (dl q l x).1.f1, (dl q l x).1.f2, (dl q l x).2.1, (dl q l x).2.2.1, (dl q l x).2.2.2) := by
  unfold dl
  by_cases h : err q l x = 0
  · obtain ⟨hn, i, rfl, hi⟩ := err0 h
    rw [if_pos h, deliver_ q l i hl hn hi, rd28 hi]
    rfl
  · rw [if_neg h]
    unfold network_Deliver.f
    rw [at_no q l x h, Option.bind_some]
    simp only []
    rw [if_neg h]
    rfl
theorem Z.ls_ (q : List S28) (l : List S55) (x : Int) : network_Lose.f q l x = some (ls q l x) := by
  unfold ls
  by_cases h : err q l x = 0
  · obtain ⟨hn, i, rfl, hi⟩ := err0 h
    rw [if_pos h, lose_ q l i hn hi]
    rfl
  · rw [if_neg h]
    unfold network_Lose.f
    rw [at_no q l x h, Option.bind_some]
    simp only []
    rw [if_neg h]
theorem Z.rp_ (q : List S28) (l : List S55) (x : Int) : network_Repeat.f q l x = some (rp q l x) := by
  unfold rp
  by_cases h : err q l x = 0
  · obtain ⟨hn, i, rfl, hi⟩ := err0 h
    rw [if_pos h, repeat_ q l i hn hi, rd28 hi]
  · rw [if_neg h]
    unfold network_Repeat.f
    rw [at_no q l x h, Option.bind_some]
    simp only []
    rw [if_neg h]
/-- What Cut answers. -/
def Z.ct (q : List S28) (l : List S55) (a b : Int) (on : Bool) : List S28 × List S55 × Int := if net q l = true then (if 0 ≤ a ∧ a < 7 ∧ 0 ≤ b ∧ b < 7 ∧ a ≠ b then (q, toldL l ⟨mn a b, mx a b⟩ on (allL 7), 0) else ([], [], 1)) else ([], [], 480)
theorem Z.valid_ (a b : Int) : network_link_valid.f (mn a b) (mx a b) = some (decide (0 ≤ a ∧ a < 7 ∧ 0 ≤ b ∧ b < 7 ∧ a ≠ b)) := by
  unfold network_link_valid.f mn mx
  repeat' split
  all_goals (congr 1; first | (rw [decide_eq_decide]; omega) | (symm; rw [decide_eq_false_iff_not]; omega))
theorem Z.ct_ (q : List S28) (l : List S55) (a b : Int) (on : Bool) : network_Cut.f q l a b on = some (ct q l a b on) := by
  unfold network_Cut.f ct network_between.f
  rw [check_, Option.bind_some, Option.bind_some, valid_, Option.bind_some, chk]
  by_cases hn : net q l = true
  · rw [if_pos hn, if_pos hn, if_pos rfl]
    by_cases hv : 0 ≤ a ∧ a < 7 ∧ 0 ≤ b ∧ b < 7 ∧ a ≠ b
    · rw [if_pos (decide_eq_true hv), if_pos hv]
    · rw [if_neg (by rw [decide_eq_false hv]; decide), if_neg hv]
  · rw [if_neg hn, if_neg hn, if_neg (by decide)]
theorem Z.allL7 : (allL 7).length = 21 := by decide
end Go.Proofs.Ytccmjndldffclaa.X
-- What is delivered has been sent: the law.
namespace Go.Proofs.Ytccmjndldffclaa.X
open Go.RowKit Go.Proofs.YtccmjndldffclaaW.PrintWords
set_option linter.unusedVariables false
set_option linter.unusedSimpArgs false
open Z
theorem Z.sane_le : ∀ n, sizarlaw48_sane.f (300 + n) = some true
  | 0 => sane
  | n + 1 => sizarlaw48_sane.mono (300 + n) true (sane_le n)
/-! The links that are left after a cut are in order. -/
theorem Z.lks_pw (l : List S55) (hok : ∀ x ∈ l, lok x = true) (hpw : l.Pairwise (fun x y => llt x y = true)) (hl : l.length < 1000000) : ∀ (n a : Nat), n + a = l.length → lks l n a = true
  | 0, a, h => rfl
  | n + 1, a, h => by
    have ha : a < l.length := by omega
    rw [lks, lks_pw l hok hpw hl n (a + 1) (by omega), rd55 ha, hok _ (List.getElem_mem ha)]
    cases a with
    | zero => simp
    | succ a =>
      have ha' : a < l.length := by omega
      have h1 : llt l[a] l[a + 1] = true := List.pairwise_iff_getElem.1 hpw a (a + 1) ha' ha (by omega)
      rw [show a + 1 - 1 = a from by omega, rd55 ha', h1]
      simp
theorem Z.allL_ok : ∀ x ∈ allL 7, lok x = true := by decide
theorem Z.allL_pw : (allL 7).Pairwise (fun x y => llt x y = true) := by decide
theorem Z.toldL_len7 (l : List S55) (c : S55) (on : Bool) : (toldL l c on (allL 7)).length ≤ 21 := by
  have h := List.length_filter_le (keepL l c on) (allL 7)
  rwa [allL7] at h
theorem Z.net_cut {q : List S28} {l : List S55} (hn : net q l = true) (c : S55) (on : Bool) : net q (toldL l c on (allL 7)) = true := by
  simp only [net, Bool.and_eq_true, decide_eq_true_eq] at hn ⊢
  have hlen := toldL_len7 l c on
  exact ⟨hn.1, lks_pw (toldL l c on (allL 7)) (fun x hx => allL_ok x (List.mem_filter.1 hx).1) (List.Pairwise.filter _ allL_pw) (by omega) _ 0 (by omega)⟩
theorem Z.toldL_none (c : S55) (xs : List S55) : toldL [] c false xs = [] := by
  unfold toldL
  rw [List.filter_eq_nil_iff]
  intro x hx
  unfold keepL cont
  simp
/-! What happens. -/
def Z.hat (q : List S28) (f1 : Int) : Int := if (q.length : Int) > 0 then Int.tmod (wrap64 f1) (q.length : Int) else 0
def Z.hpk (m : S52) : S28 := ⟨Int.tmod (wrap64 m.f2) 7, Int.tmod (wrap64 m.f3) 7, [m.f4]⟩
def Z.hap (q : List S28) (l : List S55) (m : S52) : List S28 × List S55 × S28 × Int :=
  if Int.tmod m.f0 6 = 0 then ((snd q l (hpk m)).1, (snd q l (hpk m)).2.1, zp, (snd q l (hpk m)).2.2)
  else if Int.tmod m.f0 6 = 1 then ((dl q l (hat q m.f1)).2.1, (dl q l (hat q m.f1)).2.2.1, (dl q l (hat q m.f1)).1, (dl q l (hat q m.f1)).2.2.2)
  else if Int.tmod m.f0 6 = 2 then ((ls q l (hat q m.f1)).1, (ls q l (hat q m.f1)).2.1, zp, (ls q l (hat q m.f1)).2.2)
  else if Int.tmod m.f0 6 = 3 then ((rp q l (hat q m.f1)).1, (rp q l (hat q m.f1)).2.1, zp, (rp q l (hat q m.f1)).2.2)
  else if Int.tmod m.f0 6 = 4 then ((ct q l (hpk m).f0 (hpk m).f1 true).1, (ct q l (hpk m).f0 (hpk m).f1 true).2.1, zp, (ct q l (hpk m).f0 (hpk m).f1 true).2.2)
  else ((ct q l (hpk m).f0 (hpk m).f1 false).1, (ct q l (hpk m).f0 (hpk m).f1 false).2.1, zp, (ct q l (hpk m).f0 (hpk m).f1 false).2.2)
theorem Z.kinds {f : Int} (hf : 0 ≤ f) : Int.tmod f 6 = 0 ∨ Int.tmod f 6 = 1 ∨ Int.tmod f 6 = 2 ∨ Int.tmod f 6 = 3 ∨ Int.tmod f 6 = 4 ∨ Int.tmod f 6 = 5 := by
  obtain ⟨m, rfl⟩ := Int.eq_ofNat_of_zero_le hf
  have := Nat.mod_lt m (show 0 < 6 by decide)
  have e : Int.tmod (m : Int) 6 = ((m % 6 : Nat) : Int) := rfl
  rw [e]
  omega
theorem Z.happens_ (q : List S28) (l : List S55) (m : S52) (k : Nat) (hl : l.length < 1000000) (hf : 0 ≤ m.f0) : sizarlaw48_happens.f (k + 1) q l m.f0 m.f1 m.f2 m.f3 m.f4 = some ((hap q l m).1, (hap q l m).2.1, (hap q l m).2.2.1.f0, (hap q l m).2.2.1.f1, (hap q l m).2.2.1.f2, (hap q l m).2.2.2) := by
  have hj : sizarlaw48_happens.f (k + 1) q l m.f0 m.f1 m.f2 m.f3 m.f4 = sizarlaw48_happens.j0 (k + 1) 0 (hat q m.f1) q l m.f0 m.f1 m.f2 m.f3 m.f4 0 0 := by
    unfold sizarlaw48_happens.f hat
    by_cases h : (q.length : Int) > 0
    · rw [if_pos h, if_neg (by omega), if_pos h]
    · rw [if_neg h, if_neg h]
  have hs : network_Send.f q l (Int.tmod (wrap64 m.f2) 7) (Int.tmod (wrap64 m.f3) 7) [m.f4] = some (snd q l (hpk m)) := send_ q l (hpk m)
  have hc : ∀ on, network_Cut.f q l (Int.tmod (wrap64 m.f2) 7) (Int.tmod (wrap64 m.f3) 7) on = some (ct q l (hpk m).f0 (hpk m).f1 on) := fun on => ct_ q l _ _ on
  rw [hj, sizarlaw48_happens.j0, hs, hc, hc, dl_ q l _ hl, ls_, rp_]
  simp only [Option.bind_some]
  unfold hap
  rcases kinds hf with h | h | h | h | h | h <;> (rw [h]; rfl)
/-- Where it fails nothing is left. -/
theorem Z.snd_err {q : List S28} {l : List S55} {p : S28} (h : ¬ (snd q l p).2.2 = 0) : (snd q l p).1 = [] ∧ (snd q l p).2.1 = [] := by
  unfold snd at h ⊢
  split
  · rename_i h1
    rw [if_pos h1] at h
    split
    · exact ⟨rfl, rfl⟩
    · rename_i h2
      rw [if_neg h2] at h
      exact absurd rfl h
  · exact ⟨rfl, rfl⟩
theorem Z.snd_fine {q : List S28} {l : List S55} {p : S28} (h : (snd q l p).2.2 = 0) : snd q l p = (q ++ [p], l, 0) ∧ net (q ++ [p]) l = true := by
  unfold snd at h ⊢
  split at h
  · rename_i h1
    split at h
    · cases h
    · rename_i h2
      have := net_len h1.1
      rw [if_pos h1, if_neg h2]
      exact ⟨rfl, net_app h1.1 h1.2 (by omega)⟩
  · cases h
theorem Z.hap_err {q : List S28} {l : List S55} {m : S52} (hf : 0 ≤ m.f0) (h : ¬ (hap q l m).2.2.2 = 0) : (hap q l m).1 = [] ∧ (hap q l m).2.1 = [] := by
  have hd : ∀ x, ¬ (dl q l x).2.2.2 = 0 → (dl q l x).2.1 = [] ∧ (dl q l x).2.2.1 = [] := fun x h => by
    unfold dl at h ⊢
    split
    · rename_i h1; rw [if_pos h1] at h; exact absurd rfl h
    · exact ⟨rfl, rfl⟩
  have hl : ∀ x, ¬ (ls q l x).2.2 = 0 → (ls q l x).1 = [] ∧ (ls q l x).2.1 = [] := fun x h => by
    unfold ls at h ⊢
    split
    · rename_i h1; rw [if_pos h1] at h; exact absurd rfl h
    · exact ⟨rfl, rfl⟩
  have hr : ∀ x, ¬ (rp q l x).2.2 = 0 → (rp q l x).1 = [] ∧ (rp q l x).2.1 = [] := fun x h => by
    unfold rp at h ⊢
    split
    · rename_i h1; rw [if_pos h1] at h; exact snd_err h
    · exact ⟨rfl, rfl⟩
  have hc : ∀ a b on, ¬ (ct q l a b on).2.2 = 0 → (ct q l a b on).1 = [] ∧ (ct q l a b on).2.1 = [] := fun a b on h => by
    unfold ct at h ⊢
    split
    · rename_i h1; rw [if_pos h1] at h
      split
      · rename_i h2; rw [if_pos h2] at h; exact absurd rfl h
      · exact ⟨rfl, rfl⟩
    · exact ⟨rfl, rfl⟩
  unfold hap at h ⊢
  rcases kinds hf with e | e | e | e | e | e <;> rw [e] at h ⊢ <;> simp only [Int.reduceEq, if_true, if_false] at h ⊢
  · exact snd_err h
  · exact hd _ h
  · exact hl _ h
  · exact hr _ h
  · exact hc _ _ _ h
  · exact hc _ _ _ h
/-! The law. -/
structure Z.Inv (q : List S28) (l : List S55) (sent : List S28) (cuts i : Nat) : Prop where
  nt : net q l = true
  sn : ∀ p ∈ q, p ∈ sent
  cz : cuts = 0 → l = []
  ln : l.length ≤ 21
  ci : cuts ≤ i
  si : sent.length ≤ i
theorem Z.rd52 {l : List S52} {i : Nat} (h : i < l.length) : rd_T52 l (i : Int) = l[i] := by simp [rd_T52, List.getD_eq_getElem?_getD, List.getElem?_eq_getElem h]
theorem Z.same_some (p p' : S28) : ∃ b, sizarref48_SamePacket.f p.f0 p.f1 p.f2 p'.f0 p'.f1 p'.f2 = some b := by
  unfold sizarref48_SamePacket.f
  repeat' split
  all_goals exact ⟨_, rfl⟩
/-- The packet that is delivered is met among those that were sent. -/
theorem Z.os_1 (ms : List S52) (sent : List S28) (cuts i : Int) (x : List S28) (l : List S55) (p : S28) (K : Nat) (hn : net x l = true) (hs : sent.length ≤ 100)
    (hfin : ∀ k, K ≤ k → sizarlaw48_NetworkOnlySent.l0 k ms sent cuts (wrap64 (i + 1)) x l = some true) : ∀ (n j k : Nat) (met : Bool), n + j = sent.length → n + 1 + K ≤ k → (met = true ∨ ∃ a : Nat, ∃ h : a < sent.length, j ≤ a ∧ sent[a] = p) →
    sizarlaw48_NetworkOnlySent.l1 k ms sent cuts i met (j : Int) x l p.f0 p.f1 p.f2 = some true
  | _, _, 0, _, _, hk, _ => by omega
  | 0, j, k + 1, met, h, hk, hm => by
    have hmet : met = true := by
      rcases hm with h1 | ⟨a, ha, h2, _⟩
      · exact h1
      · omega
    rw [sizarlaw48_NetworkOnlySent.l1, if_neg (by omega), if_pos hmet, check_, Option.bind_some, chk, if_pos hn, if_pos rfl]
    exact hfin k (by omega)
  | n + 1, j, k + 1, met, h, hk, hm => by
    have hj : j < sent.length := by omega
    rw [sizarlaw48_NetworkOnlySent.l1, if_pos (by omega), w64 j (by omega)]
    by_cases hmet : met = true
    · rw [if_pos hmet]
      exact os_1 ms sent cuts i x l p K hn hs hfin n (j + 1) k true (by omega) (by omega) (.inl rfl)
    · rw [if_neg hmet, if_pos (by omega), rd28 hj]
      obtain ⟨a, ha, hja, hap⟩ := hm.resolve_left hmet
      obtain ⟨b, hb⟩ := same_some sent[j] p
      rw [hb, Option.bind_some]
      refine os_1 ms sent cuts i x l p K hn hs hfin n (j + 1) k b (by omega) (by omega) ?_
      by_cases hja2 : j = a
      · subst hja2
        rw [hap, same_packet] at hb
        injection hb with hb
        exact .inl hb.symm
      · exact .inr ⟨a, ha, by omega, hap⟩
theorem Z.os_0 (ms : List S52) (hms : ∀ m ∈ ms, 0 ≤ m.f0) (h60 : ms.length ≤ 60) : ∀ (n i k cuts : Nat) (q : List S28) (l : List S55) (sent : List S28), n + i = ms.length → n * 70 + 10 ≤ k → Inv q l sent cuts i →
    sizarlaw48_NetworkOnlySent.l0 k ms sent (cuts : Int) (i : Int) q l = some true
  | 0, i, k + 1, cuts, q, l, sent, h, hk, hI => by
    rw [sizarlaw48_NetworkOnlySent.l0, if_neg (by omega)]
  | n + 1, i, k + 1, cuts, q, l, sent, h, hk, hI => by
    have hi : i < ms.length := by omega
    obtain ⟨m, hm⟩ : ∃ m, ms[i] = m := ⟨_, rfl⟩
    have hf : 0 ≤ m.f0 := hm ▸ hms _ (List.getElem_mem hi)
    obtain ⟨k, rfl⟩ : ∃ j, k = j + 1 + 1 := ⟨k - 2, by omega⟩
    have hlen := hI.ln
    have hci := hI.ci
    have hsi := hI.si
    rw [sizarlaw48_NetworkOnlySent.l0, if_pos (by omega), if_pos (by omega), rd52 hi, hm, happens_ q l m (k + 1) (by omega) hf, Option.bind_some]
    simp only []
    rw [sizarlaw48_NetworkOnlySent.j1]
    by_cases he : (hap q l m).2.2.2 = 0
    · rw [show ((hap q l m).2.2.2 != 0) = false from by rw [he]; rfl, if_neg (by decide), if_pos (by omega), if_pos (by omega), rd52 hi, hm, w64 i (by omega)]
      unfold hap at he ⊢
      rcases kinds hf with e | e | e | e | e | e <;> rw [e] at he ⊢ <;> simp only [Int.reduceEq, if_true, if_false] at he ⊢
      · obtain ⟨hs, hn⟩ := snd_fine he
        rw [hs]
        simp only []
        have hl1 : (q ++ [hpk m]).length = q.length + 1 := by simp
        have := net_len hn
        have hr : rd_T28 (q ++ [hpk m]) (q.length : Int) = hpk m := by rw [rd28 (by omega)]; simp
        rw [hl1, w64' q.length (by omega), hr, if_neg (by omega), if_pos (by omega), if_pos (by omega), if_pos (by omega), check_, Option.bind_some, chk, if_pos hn, if_pos rfl]
        refine os_0 ms hms h60 n (i + 1) (k + 1) cuts _ l _ (by omega) (by omega) ⟨hn, ?_, hI.cz, hlen, by omega, by simp; omega⟩
        intro p hp
        rcases List.mem_append.1 hp with h1 | h1
        · exact List.mem_append_left _ (hI.sn p h1)
        · exact List.mem_append_right _ h1
      · have he0 : err q l (hat q m.f1) = 0 := by
          unfold dl at he
          split at he
          · assumption
          · rename_i h1; exact absurd he h1
        obtain ⟨hn, a, ha, hal⟩ := err0 he0
        have hd : dl q l (hat q m.f1) = (got l q[a], wo q a, l, 0) := by
          unfold dl
          rw [if_pos he0, ha, rd28 hal]
          rfl
        rw [hd]
        simp only []
        have hnw := net_wo hn a hal
        have hfin : ∀ k', n * 70 + 10 ≤ k' → sizarlaw48_NetworkOnlySent.l0 k' ms sent (cuts : Int) (wrap64 ((i : Int) + 1)) (wo q a) l = some true := fun k' hk' => by
          rw [w64 i (by omega)]
          exact os_0 ms hms h60 n (i + 1) k' cuts _ l sent (by omega) hk' ⟨hnw, fun p hp => hI.sn p (wo_sub q a p hp), hI.cz, hlen, by omega, by omega⟩
        have hmet : ∀ b : Bool, (b = true ∨ got l q[a] = q[a]) → sizarlaw48_NetworkOnlySent.j2 (k + 1) ms sent (cuts : Int) (i : Int) b (wo q a) l (got l q[a]).f0 (got l q[a]).f1 (got l q[a]).f2 = some true := fun b hb => by
          rw [sizarlaw48_NetworkOnlySent.j2]
          refine os_1 ms sent (cuts : Int) (i : Int) (wo q a) l (got l q[a]) (n * 70 + 10) hnw (by omega) hfin sent.length 0 k b (by omega) (by omega) ?_
          rcases hb with hb | hb
          · exact .inl hb
          · obtain ⟨c, hc, hcc⟩ := List.getElem_of_mem (hI.sn q[a] (List.getElem_mem hal))
            exact .inr ⟨c, hc, Nat.zero_le _, by rw [hb]; exact hcc⟩
        obtain ⟨b, hb⟩ := same_some (got l q[a]) zp
        have hb' : sizarref48_SamePacket.f (got l q[a]).f0 (got l q[a]).f1 (got l q[a]).f2 0 0 [] = some b := hb
        rw [hb', Option.bind_some]
        by_cases hcut : cut l q[a].f0 q[a].f1 = true
        · have hg : got l q[a] = zp := by unfold got; rw [if_pos hcut]
          have hbt : b = true := by
            rw [hg, same_packet] at hb
            injection hb with hb
            exact hb.symm
          have hc0 : cuts ≠ 0 := fun h0 => by
            rw [hI.cz h0] at hcut
            simp [cut, cont] at hcut
          rw [if_pos hbt]
          exact hmet _ (.inl (decide_eq_true (by omega)))
        · have hg : got l q[a] = q[a] := by unfold got; rw [if_neg hcut]
          split
          · exact hmet _ (.inr hg)
          · exact hmet _ (.inr hg)
      · have he0 : err q l (hat q m.f1) = 0 := by
          unfold ls at he
          split at he
          · assumption
          · rename_i h1; exact absurd he h1
        obtain ⟨hn, a, ha, hal⟩ := err0 he0
        have hd : ls q l (hat q m.f1) = (wo q a, l, 0) := by
          unfold ls
          rw [if_pos he0, ha]
          rfl
        have hnw := net_wo hn a hal
        rw [hd]
        simp only []
        rw [check_, Option.bind_some, chk, if_pos hnw, if_pos rfl]
        exact os_0 ms hms h60 n (i + 1) (k + 1) cuts _ l sent (by omega) (by omega) ⟨hnw, fun p hp => hI.sn p (wo_sub q a p hp), hI.cz, hlen, by omega, by omega⟩
      · have he0 : err q l (hat q m.f1) = 0 := by
          unfold rp at he
          split at he
          · assumption
          · rename_i h1; exact absurd he h1
        obtain ⟨hn, a, ha, hal⟩ := err0 he0
        have hd : rp q l (hat q m.f1) = snd q l q[a] := by
          unfold rp
          rw [if_pos he0, ha, rd28 hal]
        rw [hd] at he ⊢
        obtain ⟨hs, hnw⟩ := snd_fine he
        rw [hs]
        simp only []
        rw [check_, Option.bind_some, chk, if_pos hnw, if_pos rfl]
        refine os_0 ms hms h60 n (i + 1) (k + 1) cuts _ l sent (by omega) (by omega) ⟨hnw, ?_, hI.cz, hlen, by omega, by omega⟩
        intro p hp
        rcases List.mem_append.1 hp with h1 | h1
        · exact hI.sn p h1
        · rw [List.mem_singleton.1 h1]; exact hI.sn _ (List.getElem_mem hal)
      · have hc : ct q l (hpk m).f0 (hpk m).f1 true = (q, toldL l ⟨mn (hpk m).f0 (hpk m).f1, mx (hpk m).f0 (hpk m).f1⟩ true (allL 7), 0) := by
          unfold ct at he ⊢
          split at he
          · split at he
            · rename_i h1 h2; rw [if_pos h1, if_pos h2]
            · cases he
          · cases he
        have hnw := net_cut hI.nt ⟨mn (hpk m).f0 (hpk m).f1, mx (hpk m).f0 (hpk m).f1⟩ true
        have := toldL_len7 l ⟨mn (hpk m).f0 (hpk m).f1, mx (hpk m).f0 (hpk m).f1⟩ true
        rw [hc]
        simp only []
        rw [check_, Option.bind_some, chk, if_pos hnw, if_pos rfl, w64 cuts (by omega)]
        exact os_0 ms hms h60 n (i + 1) (k + 1) (cuts + 1) _ _ sent (by omega) (by omega) ⟨hnw, hI.sn, fun h => by omega, by omega, by omega, by omega⟩
      · have hc : ct q l (hpk m).f0 (hpk m).f1 false = (q, toldL l ⟨mn (hpk m).f0 (hpk m).f1, mx (hpk m).f0 (hpk m).f1⟩ false (allL 7), 0) := by
          unfold ct at he ⊢
          split at he
          · split at he
            · rename_i h1 h2; rw [if_pos h1, if_pos h2]
            · cases he
          · cases he
        have hnw := net_cut hI.nt ⟨mn (hpk m).f0 (hpk m).f1, mx (hpk m).f0 (hpk m).f1⟩ false
        have := toldL_len7 l ⟨mn (hpk m).f0 (hpk m).f1, mx (hpk m).f0 (hpk m).f1⟩ false
        rw [hc]
        simp only []
        rw [check_, Option.bind_some, chk, if_pos hnw, if_pos rfl]
        exact os_0 ms hms h60 n (i + 1) (k + 1) cuts _ _ sent (by omega) (by omega) ⟨hnw, hI.sn, fun h => by rw [hI.cz h]; exact toldL_none _ _, by omega, by omega, by omega⟩
    · obtain ⟨h1, h2⟩ := hap_err hf he
      rw [show ((hap q l m).2.2.2 != 0) = true from bne_iff_ne.mpr he, if_pos rfl, check_, Option.bind_some, chk, if_pos hI.nt, if_pos rfl, h1, h2, same_ [] [] (k + 1) (by simp) (by simp) (by simp; omega), Option.bind_some, if_pos rfl, w64 i (by omega)]
      exact os_0 ms hms h60 n (i + 1) (k + 1) cuts q l sent (by omega) (by omega) ⟨hI.nt, hI.sn, hI.cz, hlen, by omega, by omega⟩
theorem Pu.NetworkOnlySent (ms : List S52) (hms : ∀ m ∈ ms, 0 ≤ m.f0) : ∃ k, sizarlaw48_NetworkOnlySent.f k ms = some true := by
  refine ⟨300 + 4000, ?_⟩
  unfold sizarlaw48_NetworkOnlySent.f
  rw [sane_le, Option.bind_some, if_pos rfl]
  by_cases h : (ms.length : Int) > 60
  · rw [if_pos h]
  · rw [if_neg h]
    unfold network_New.f
    rw [Option.bind_some]
    exact os_0 ms hms (by omega) ms.length 0 _ 0 [] [] [] (by omega) (by omega) ⟨by decide, fun p hp => (by cases hp), fun _ => rfl, by simp, Nat.le_refl _, by simp⟩
end Go.Proofs.Ytccmjndldffclaa.X
-- The row of the law NetworkOnlySent, out of its pure proof and its walk (written by wip/mkrow.py).
namespace Go.Proofs.Ytccmjndldffclaa.networkOnlySent
open Go.ChangeShapes Go.WideShapes Go.ChangeAt Go.RowKit Go.Proofs.YtccmjndldffclaaW.PrintWords Go.Proofs.YtccmjndldffclaaW.Opn Go.Proofs.Ytccmjndldffclaa.X
open Go.ChangeMaps (open_string shut_string)
set_option linter.unusedVariables false
theorem own : ownKnob Try.prog.godebug = none := by kernel_rfl
theorem laidOut : laidOutB Try.prog = true := by kernel_rfl
set_option maxRecDepth 100000 in
theorem lifted (os : Os) (started : os.Started) (H : Type) (enc : TypeId × Value → H) :
    ReturnsInHanded {} Try.checked os 7 .any (Rows.networkOnlySentSpec.pre6 enc Try.prog Try.f7 Rows.networkOnlySentRow.domain false) (Rows.networkOnlySentSpec.post enc Try.prog Try.f7 false true false false) := by
  refine returnsInHanded_of_change_sized (C := Try.checked) own started (by kernel_rfl) Try.func7
    (ChangeSpec.witness6 (enc := enc) (C := Try.checked) false ⟨#[], #[.slice none 0 0], []⟩ 8 (by kernel_rfl) (by kernel_rfl) (by kernel_rfl) (by kernel_rfl)) ?_
  intro W base args ds gs before hval0 hW hcnd hsz0 _
  have hval : ∀ (j : Nat) t v, Try.f7.params[j]? = some t → args[j]? = some v → Value.okWide Try.prog W .any base t v := hval0
  have hW' := hW
  obtain ⟨p, q, hA0, hV, rfl, hfz, hnd⟩ := hW
  have hA : DataW.TrodAll enc Try.prog W 0 (fun _ => true) true Try.f7.params.toList args.toList ds p := hA0
  rw [Try.params7] at hA hval
  obtain ⟨v0, vs0, d0, ds0, p0, q0, hargs, rfl, rfl, h0, r0⟩ := trodAll_cons hA
  obtain ⟨rfl, rfl, rfl⟩ := trodAll_nil r0
  obtain rfl : args = #[v0] := by cases args; simp_all
  obtain ⟨rfl, rfl⟩ := trodVars_none hV
  have k0 := h0
  have lt0 : ∀ x ∈ p0, x.block < W.heap.size := by obtain ⟨m, hm⟩ := k0; exact DataW.trod_lt m _ _ _ hm
  obtain ⟨A0, c0, l0, rfl, hc0, hr0, ho0⟩ := Opens.arg_slice op52 Try.underlying48 (hval 0 48 v0 rfl rfl) h0
  clear hA0 hval0 hsz0
  obtain ⟨k, hk_⟩ := Pu.NetworkOnlySent l0 ho0
  refine (sizarlaw48_NetworkOnlySent.calls k A0 c0 l0 true W hr0 hc0 hk_).mono fun e W' ⟨he, bel0⟩ => ?_
  have bel : Below W.heap.size W W' := bel0
  subst he
  exact ⟨_, rfl, _, _, _, [], _, [], hW', trodAll_mk1 (shut_bool Try.underlying4 _), (trodAll_cons_mk (Below.trod laidOut (by kernel_rfl) (of_decide_eq_true (by kernel_rfl)) k0 bel lt0) trodAll_mk0), rfl, bel.frame _, fun h => by cases h⟩
theorem over : Rows.networkOnlySentRow.holds Try.pinned (OpenSpec.ofChange Rows.networkOnlySentSpec) :=
  OpenClaim.holds_of_wide 7 Try.f7 rfl rfl rfl rfl rfl rfl rfl ⟨rfl, rfl, rfl, rfl, rfl⟩ rfl rfl rfl rfl rfl (by kernel_rfl) Try.func7 (by kernel_rfl)
    (of_decide_eq_true (by kernel_rfl)) (by unfold Func.isWrapper; first | (rw [if_pos (by decide +kernel)]; kernel_rfl) | (rw [if_neg (by decide +kernel)]; exact ⟨rfl, rfl⟩))
    (fun os started H enc _ => lifted os started H enc)
end Go.Proofs.Ytccmjndldffclaa.networkOnlySent
namespace Go.Proofs.Ytccmjndldffclaa
/-- The row, under a short name, for the claim. -/
theorem networkOnlySent_holds : Rows.NetworkOnlySentSaid := networkOnlySent.over
#print axioms networkOnlySent_holds
end Go.Proofs.Ytccmjndldffclaa
