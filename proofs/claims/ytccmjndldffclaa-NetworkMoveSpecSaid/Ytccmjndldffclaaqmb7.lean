-- Shared by this seat's claims: the words, what the printer printed, and the given functions' own texts, packed by wip/pack.py.
import Derived.Test.Ytccmjndldffclaaqmb6
import Derived.ChangeSame
import Derived.ChangeShapes
import Derived.Deep.Slices
import Derived.WideShapes
-- What a parameter's reading says, kind by kind: ints, bools, strings, structs, arrays as structs, slices, nested as they come. No program.
namespace Go.Proofs.YtccmjndldffclaaW.Opn
open Go.RowKit Go.Proofs.YtccmjndldffclaaW.PrintWords Go.ChangeShapes Go.WideShapes Go.Deep
set_option linter.unusedVariables false
/-- Whatever is read at the type 't' is a value of the kind 'K', in 'ok'. -/
def Opens (P : Program) (t : TypeId) {α : Type} (K : Kd α) (ok : α → Prop) : Prop :=
  P.cellsOf t = K.sz ∧ ∀ {H : Type} (enc : TypeId × Value → H) (w : World) (base : Nat) (spare : Nat → Bool) (held : Bool) (fuel : Nat) (cs : List Value) (x : DataW H × List MemPlace),
    DataW.trod enc P w base spare held fuel t cs = some x → ∃ y, K.K w y cs ∧ ok y
section
variable {P : Program} {t e : TypeId} {α β : Type} {K : Kd α} {ok : α → Prop}
theorem Opens.int {k : IntKind} (ht : P.underlying t = some (.int k)) (hc : P.cellsOf t = 1) : Opens P t (Kd.int k) (fun n => (Lit.int k n).wf = true) := by
  refine ⟨hc, fun enc w base spare held fuel cs x h => ?_⟩
  obtain ⟨n, h1, _, hw⟩ := DataW.trod_int ht h
  exact ⟨n, h1, hw⟩
theorem Opens.bool (ht : P.underlying t = some .bool) (hc : P.cellsOf t = 1) : Opens P t Kd.bool (fun _ => True) := by
  refine ⟨hc, fun enc w base spare held fuel cs x h => ?_⟩
  cases fuel with
  | zero => simp [DataW.trod] at h
  | succ n =>
    unfold DataW.trod at h
    rw [ht] at h
    split at h
    · exact ⟨_, rfl, trivial⟩
    all_goals simp_all
theorem Opens.iso (h : Opens P t K ok) (f : β → α) (g : α → β) (hg : ∀ x, f (g x) = x) : Opens P t (Kd.iso K f) (fun y => ok (f y)) := by
  refine ⟨h.1, fun enc w base spare held fuel cs x hx => ?_⟩
  obtain ⟨y, hy, ho⟩ := h.2 enc w base spare held fuel cs x hx
  refine ⟨g y, ?_, by show ok (f (g y)); rw [hg]; exact ho⟩
  show K.K w (f (g y)) cs
  rw [hg]
  exact hy
theorem Opens.imp {ok' : α → Prop} (h : Opens P t K ok) (hi : ∀ x, ok x → ok' x) : Opens P t K ok' := by
  refine ⟨h.1, fun enc w base spare held fuel cs x hx => ?_⟩
  obtain ⟨y, hy, ho⟩ := h.2 enc w base spare held fuel cs x hx
  exact ⟨y, hy, hi y ho⟩
/-- Some cells in line: (offset, type) each. -/
def OpensFs (P : Program) (fs : List (Nat × TypeId)) (off : Nat) {α : Type} (K : Kd α) (ok : α → Prop) : Prop :=
  ∀ {H : Type} (enc : TypeId × Value → H) (w : World) (base : Nat) (spare : Nat → Bool) (held : Bool) (n : Nat) (cs : List Value), cs.length = off + K.sz →
    (∀ f ∈ fs, ∃ x, DataW.trod enc P w base spare held n f.2 ((cs.drop f.1).take (P.cellsOf f.2)) = some x) → ∃ y, K.K w y (cs.drop off) ∧ ok y
theorem OpensFs.last {off : Nat} (h : Opens P t K ok) : OpensFs P [(off, t)] off K ok := by
  intro H enc w base spare held n cs hl hf
  obtain ⟨x, hx⟩ := hf (off, t) (by simp)
  obtain ⟨y, hy, ho⟩ := h.2 enc w base spare held n _ x hx
  rw [h.1, List.take_of_length_le (by simp; omega)] at hy
  exact ⟨y, hy, ho⟩
theorem OpensFs.cons {off : Nat} {fs : List (Nat × TypeId)} {K1 : Kd β} {ok1 : β → Prop} (h : Opens P t K ok) (h1 : OpensFs P fs (off + K.sz) K1 ok1) :
    OpensFs P ((off, t) :: fs) off (Kd.pair K K1) (fun y => ok y.1 ∧ ok1 y.2) := by
  intro H enc w base spare held n cs hl hf
  obtain ⟨x, hx⟩ := hf (off, t) (by simp)
  obtain ⟨y, hy, ho⟩ := h.2 enc w base spare held n _ x hx
  have hl' : cs.length = off + (K.sz + K1.sz) := hl
  obtain ⟨y1, hy1, ho1⟩ := h1 enc w base spare held n cs (by omega) (fun f hf' => hf f (by simp [hf']))
  refine ⟨(y, y1), ⟨_, _, ?_, hy, hy1⟩, ho, ho1⟩
  show cs.drop off = (cs.drop off).take (P.cellsOf t) ++ cs.drop (off + K.sz)
  rw [h.1, ← List.drop_drop, List.take_append_drop]
theorem Opens.struct {fs : Array Field} (ht : P.underlying t = some (.struct fs)) (hc : P.cellsOf t = K.sz) (h : OpensFs P (fs.toList.map fun f => (f.offset, f.type)) 0 K ok) : Opens P t K ok := by
  refine ⟨hc, fun {H} enc w base spare held fuel cs x hx => ?_⟩
  obtain ⟨xs, n, _, _, hl, hxl, hg⟩ := DataW.trod_struct ht hx
  obtain ⟨y, hy, ho⟩ := h enc w base spare held n cs (by omega) (by
    intro f hf
    simp only [List.mem_map, Array.mem_toList_iff] at hf
    obtain ⟨f', hf', rfl⟩ := hf
    obtain ⟨i, hi, rfl⟩ := Array.mem_iff_getElem.1 hf'
    have h1 := hg i fs[i] (Array.getElem?_eq_getElem hi)
    rw [List.getElem?_eq_getElem (by omega)] at h1
    exact ⟨_, h1⟩)
  exact ⟨y, by simpa using hy, ho⟩
theorem Opens.array {n : Nat} (ht : P.underlying t = some (.array n e)) (hc : P.cellsOf t = K.sz) (h : OpensFs P ((List.range n).map fun i => (i * P.cellsOf e, e)) 0 K ok) : Opens P t K ok := by
  refine ⟨hc, fun {H} enc w base spare held fuel cs x hx => ?_⟩
  cases fuel with
  | zero => simp [DataW.trod] at hx
  | succ m =>
    unfold DataW.trod at hx
    rw [ht] at hx
    split at hx <;> simp_all
    rename_i hnn
    obtain ⟨rfl, rfl⟩ := hnn
    obtain ⟨hl, xs, hp, hd⟩ := hx
    obtain ⟨y, hy, ho⟩ := h enc w base spare held m _ (by rw [Nat.zero_add]; exact hl) (by
      intro f hf
      simp only [List.mem_map, List.mem_range] at hf
      obtain ⟨i, hi, rfl⟩ := hf
      have hlen := mapM_some_length hp
      simp at hlen
      have h1 := mapM_some_get hp i i (by simp [hi])
      rw [List.getElem?_eq_getElem (by omega)] at h1
      exact ⟨_, by simpa using h1⟩)
    exact ⟨y, by simpa using hy, ho⟩
theorem Opens.row (he : Opens P e K ok) (ht : P.underlying t = some (.slice e)) {H : Type} {enc : TypeId × Value → H} {w : World} {base : Nat} {spare : Nat → Bool} {held : Bool} {fuel : Nat} {cs : List Value} {x : DataW H × List MemPlace}
    (h : DataW.trod enc P w base spare held fuel t cs = some x) : ∃ (A : Option Addr) (c : Nat) (l : List α), cs = [.slice A l.length c] ∧ l.length ≤ c ∧ Kd.C K w A l.length l ∧ ∀ z ∈ l, ok z := by
  rcases open_slice ht h with ⟨rfl, _⟩ | ⟨a, len, cap, m, n, D, Pl, rfl, hb, hl, hm, hmm, _, hi⟩
  · exact ⟨none, 0, [], rfl, Nat.le_refl _, ⟨rfl, by simp, by simp⟩, by simp⟩
  · have hlm : len ≤ m := by rw [hmm]; split <;> omega
    have key : ∀ k, k ≤ len → ∃ l : List α, l.length = k ∧ (∀ j p, l[j]? = some p → ∃ c, c.length = K.sz ∧ K.K w p c ∧ ∀ i u, c[i]? = some u → w.cell? (a.add (j * K.sz + i)) = some u) ∧ ∀ z ∈ l, ok z := by
      intro k
      induction k with
      | zero => exact fun _ => ⟨[], rfl, by simp, by simp⟩
      | succ k ih =>
        intro hk
        obtain ⟨l, hll, hlc, hlo⟩ := ih (by omega)
        obtain ⟨cs', hc, ht'⟩ := hi k (by omega)
        obtain ⟨y, hy, ho⟩ := he.2 enc w base spare held n cs' _ ht'
        obtain ⟨_, hcl, hat⟩ := World.cells?_some hc
        rw [he.1] at hcl hat
        refine ⟨l ++ [y], by simp [hll], ?_, ?_⟩
        · intro j p hj
          by_cases hjk : j < l.length
          · rw [List.getElem?_append_left hjk] at hj
            exact hlc j p hj
          · have hjl : j < (l ++ [y]).length := (List.getElem?_eq_some_iff.1 hj).1
            simp at hjl
            obtain rfl : j = k := by omega
            rw [List.getElem?_append_right (by omega)] at hj
            simp [hll] at hj
            subst hj
            refine ⟨cs', hcl, hy, fun i u hu => ?_⟩
            have hil : i < cs'.length := (List.getElem?_eq_some_iff.1 hu).1
            rw [← Go.Deep.add_add, hat i (by omega), hu]
        · intro z hz
          rcases List.mem_append.1 hz with hz | hz
          · exact hlo z hz
          · rw [List.mem_singleton.1 hz]
            exact ho
    obtain ⟨l, rfl, hlc, hlo⟩ := key len (Nat.le_refl _)
    refine ⟨some a, cap, l, rfl, hl, ⟨rfl, ?_, fun _ => ⟨a, rfl, hlc⟩⟩, hlo⟩
    have : maxLen = 9223372036854775807 := by decide
    omega
theorem Opens.slice {e' : Nat} (he : Opens P e K ok) (ht : P.underlying t = some (.slice e)) (hc : P.cellsOf t = 1) : Opens P t (Kd.slice e' K) (fun l => ∀ z ∈ l, ok z) := by
  refine ⟨hc, fun enc w base spare held fuel cs x h => ?_⟩
  obtain ⟨A, c, l, h1, h2, h3, h4⟩ := Opens.row he ht h
  exact ⟨l, ⟨A, c, h1, h2, h3⟩, h4⟩
/-- An argument: a struct by value. -/
theorem Opens.arg_struct (hk : Opens P t K ok) {fs : Array Field} (ht : P.underlying t = some (.struct fs)) {H : Type} {enc : TypeId × Value → H} {w : World} {r : Reach} {b0 base : Nat} {spare : Nat → Bool} {held : Bool} {v : Value} {d : DataW H} {p : List MemPlace}
    (hv : Value.okWide P w r b0 t v) (h : DataW.Trod enc P w base spare held t v d p) : ∃ (y : α) (cs : List Value), v = .agg ⟨cs⟩ ∧ K.K w y cs ∧ ok y := by
  obtain ⟨cs, rfl, hsz⟩ := okWide_struct ht hv
  obtain ⟨fuel, hf⟩ := h
  obtain ⟨y, hy, ho⟩ := hk.2 enc w base spare held fuel _ _ hf
  exact ⟨y, cs.toList, rfl, by simpa [Value.cells] using hy, ho⟩
end
end Go.Proofs.YtccmjndldffclaaW.Opn
namespace Go.Proofs.Ytccmjndldffclaa.X
open Go.RowKit Go.Proofs.YtccmjndldffclaaW.PrintWords Go.Proofs.YtccmjndldffclaaW.Opn
theorem op3 : Opens Try.prog 3 (Kd.int .i64) (fun _ => True) := (Opens.int (by kernel_rfl) (by kernel_rfl)).imp (fun _ _ => trivial)
theorem op5 : Opens Try.prog 5 (Kd.int .u8) (fun _ => True) := (Opens.int (by kernel_rfl) (by kernel_rfl)).imp (fun _ _ => trivial)
theorem op26 : Opens Try.prog 26 (Kd.slice 5 (Kd.int .u8)) (fun _ => True) := (Opens.slice op5 (by kernel_rfl) (by kernel_rfl)).imp (fun _ _ => trivial)
theorem op28 : Opens Try.prog 28 k28 (fun _ => True) :=
  ((Opens.struct Try.underlying28 (by kernel_rfl) (OpensFs.cons op3 (OpensFs.cons op3 (OpensFs.last op26)))).iso _ (fun x => ⟨x.1, x.2.1, x.2.2⟩) (fun _ => rfl)).imp (fun _ _ => trivial)
theorem c3 : Try.prog.cellsOf 3 = 1 := by kernel_rfl
theorem op55 : Opens Try.prog 55 k55 (fun _ => True) :=
  ((Opens.array (n := 2) Try.underlying55 (by kernel_rfl) (by rw [c3]; exact OpensFs.cons op3 (OpensFs.last op3))).iso _ (fun x => ⟨x.1, x.2⟩) (fun _ => rfl)).imp (fun _ _ => trivial)
/-- The links: packets on their way, pairs that are cut. -/
structure SN where
  q : List S28
  l : List S55
def kN : Kd SN := Kd.iso (Kd.pair (Kd.slice 28 k28) (Kd.slice 55 k55)) (fun x : SN => (x.q, x.l))
theorem kN_open {w : World} {x : SN} {cs : List Value} (h : kN.K w x cs) : ∃ A0 c0 A1 c1, cs = [.slice A0 x.q.length c0, .slice A1 x.l.length c1] ∧ x.q.length ≤ c0 ∧ k28.C w A0 x.q.length x.q ∧ x.l.length ≤ c1 ∧ k55.C w A1 x.l.length x.l := by
  obtain ⟨_, _, rfl, ⟨A0, c0, rfl, l0, g0⟩, ⟨A1, c1, rfl, l1, g1⟩⟩ := h
  exact ⟨A0, c0, A1, c1, rfl, l0, g0, l1, g1⟩
theorem op22 : Opens Try.prog 22 (Kd.slice 28 k28) (fun _ => True) := (Opens.slice op28 (by kernel_rfl) (by kernel_rfl)).imp (fun _ _ => trivial)
theorem op23 : Opens Try.prog 23 (Kd.slice 55 k55) (fun _ => True) := (Opens.slice op55 (by kernel_rfl) (by kernel_rfl)).imp (fun _ _ => trivial)
theorem op25 : Opens Try.prog 25 kN (fun _ => True) :=
  ((Opens.struct Try.underlying25 (by kernel_rfl) (OpensFs.cons op22 (OpensFs.last op23))).iso _ (fun x => ⟨x.1, x.2⟩) (fun _ => rfl)).imp (fun _ _ => trivial)
end Go.Proofs.Ytccmjndldffclaa.X
