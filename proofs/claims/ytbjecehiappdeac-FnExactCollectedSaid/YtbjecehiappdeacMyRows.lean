/- A slice of slices of integers that came in, as the walk's words read it: nothing is asked of it. -/
import Derived.Deep.Matrix
import Derived.ProofKit
import Derived.OpenShut
import Derived.Test.YtbjecehiappdeacWWords
import Derived.Test.YtbjecehiappdeacWMore
namespace Go.Proofs.Ytbjecehiappdeac.MyRows
open Go.ChangeShapes Go.WideShapes Go.RowKit Go.Proofs.YtbjecehiappdeacW.PrintWords
set_option linter.unusedVariables false
theorem list_of {Q : Nat → List Int → Prop} (n : Nat) (h : ∀ j, j < n → ∃ p, Q j p) : ∃ l : List (List Int), l.length = n ∧ ∀ j p, l[j]? = some p → Q j p := by
  induction n with
  | zero => exact ⟨[], rfl, fun j p hp => by simp at hp⟩
  | succ n ih =>
    obtain ⟨l, hl, hq⟩ := ih (fun j hj => h j (by omega))
    obtain ⟨p, hp⟩ := h n (by omega)
    refine ⟨l ++ [p], by simp [hl], fun j x hx => ?_⟩
    by_cases hj : j < l.length
    · rw [List.getElem?_append_left hj] at hx
      exact hq j x hx
    · have hj2 := (List.getElem?_eq_some_iff.1 hx).1
      simp at hj2
      have e : j = l.length := by omega
      subst e
      simp at hx
      subst hx
      rw [hl]
      exact hp
theorem rows_of {H : Type} {enc : TypeId × Value → H} {P : Program} {W : World} {base : Nat} {held : Bool} {t e q : TypeId} {k : IntKind} {a : Option Addr} {len cap : Nat} {d : DataW H} {ps : List MemPlace} (ht : P.underlying t = some (.slice e)) (he : P.underlying e = some (.slice q)) (hq : P.underlying q = some (.int k)) (ce : P.cellsOf e = 1) (cq : P.cellsOf q = 1)
    (h : DataW.Trod enc P W base (fun _ => true) held t (.slice a len cap) d ps) :
    ∃ l : List (List Int), len = l.length ∧ Kd.C (Kd.slice q (Kd.int k)) W a l.length l ∧ l.length ≤ cap ∧ l.length ≤ maxLen ∧ ∀ x ∈ l, x.length ≤ maxLen ∧ ∀ y ∈ x, (Lit.int k y).wf = true := by
  obtain ⟨fuel, hf⟩ := h
  rcases Go.Deep.open_int_rows ht he hq ce cq hf with ⟨hcs, _⟩ | ⟨x, n, c, A, L, C, Z, hcs, _, hl, hm, _, hrow⟩
  · simp [Value.cells] at hcs
    obtain ⟨rfl, rfl, rfl⟩ := hcs
    exact ⟨[], rfl, Kd.C_nil _ _, by simp, by simp, by simp⟩
  · simp [Value.cells] at hcs
    obtain ⟨rfl, rfl, rfl⟩ := hcs
    have each : ∀ j, j < len → ∃ p : List Int, (∃ A' c', W.cell? (x.add j) = some (.slice A' p.length c') ∧ p.length ≤ c' ∧ Kd.C (Kd.int k) W A' p.length p) ∧ p.length ≤ maxLen ∧ ∀ y ∈ p, (Lit.int k y).wf = true := by
      intro j hj
      obtain ⟨h1, h2, h3, h4, h5, h6, h7⟩ := hrow j (by omega)
      obtain ⟨p, e, hr, hm', hw, hc⟩ := ReadsInt.ofRowC (k := k) (w := W) (a := A j) (len := L j) (cap := C j) (zs := Z j) (by
        cases hA : A j with
        | none =>
          have h8 := h6 hA
          exact .inl ⟨rfl, by omega, h8, List.eq_nil_of_length_eq_zero (by omega)⟩
        | some ad => exact .inr ⟨ad, rfl, h2, h3, h4, fun i hi => (h7 ad hA).2 i (by omega), h5⟩)
      exact ⟨p, ⟨A j, C j, by rw [h1, e], hc, Kd.C_of_reads (d := (0 : Int)) (h1 := fun _ => rfl) hr⟩, hm', hw⟩
    obtain ⟨l, hlen, hl2⟩ := list_of len each
    refine ⟨l, hlen.symm, ⟨rfl, by rw [hlen]; unfold maxLen at hm; omega, fun _ => ⟨x, rfl, fun j p hp => ?_⟩⟩, by omega, by omega, fun p hp => ?_⟩
    · obtain ⟨⟨A', c', hc1, hc2, hc3⟩, _, _⟩ := hl2 j p hp
      refine ⟨[.slice A' p.length c'], rfl, ⟨A', c', rfl, hc2, hc3⟩, fun i u hu => ?_⟩
      cases i with
      | zero =>
        simp at hu
        subst hu
        simpa [Kd.slice] using hc1
      | succ i => simp at hu
    · obtain ⟨j, hj⟩ := List.getElem?_of_mem hp
      exact (hl2 j p hj).2
end Go.Proofs.Ytbjecehiappdeac.MyRows
