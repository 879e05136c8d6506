/- spec.ParseInt at every string, and what impl.ParseInt answers: the same. -/
import Derived.Test.YtbjecehiappdeaaDoorMyPure
import Derived.Test.YtbjecehiappdeaaDoorMyLaw
namespace Go.Proofs.YtbjecehiappdeaaDoor.MyJoin
open Go.RowKit Go.Proofs.YtbjecehiappdeaaDoorW.PrintWords Go.Proofs.YtbjecehiappdeaaDoorW.PrintLast Go.Proofs.YtbjecehiappdeaaDoorW.PrintMore
open Go.Proofs.YtbjecehiappdeaaDoor.MySpec Go.Proofs.YtbjecehiappdeaaDoor.MyPure
def parseP (s : ByteArray) : Int × Bool := if 1 ≤ s.size ∧ s.size ≤ 13 then endP s (Lib.decFrom 0 s.data.toList) else (0, false)
theorem spec_ev (s : ByteArray) : Ev (fun k => spec_ParseInt.f k s) (parseP s) := by
  unfold spec_ParseInt.f parseP
  have hin : spec_l1In.f (s.size : Int) 1 13 = some (decide (1 ≤ s.size ∧ s.size ≤ 13)) := by
    unfold spec_l1In.f
    by_cases h : (s.size : Int) ≥ 1
    · rw [if_pos h]
      congr 1
      rw [decide_eq_decide]
      omega
    · rw [if_neg h, decide_eq_false (by omega)]
  rw [hin]
  by_cases h : 1 ≤ s.size ∧ s.size ≤ 13
  · rw [if_pos h, decide_eq_true h]
    exact spec_loop s h.2 s.data.toList [] 0 rfl (by simp)
  · rw [if_neg h, decide_eq_false h]
    exact ⟨0, fun k _ => by simp⟩
theorem dig_byte (d : Nat) (h : d < 10) : 48 ≤ (UInt8.ofNat (48 + d)).toNat := by
  rw [UInt8.toNat_ofNat']
  omega
theorem digits : ∀ (u : Nat), ∀ b ∈ Lib.decDigits u, 48 ≤ b.toNat := by
  intro u
  induction u using Nat.strongRecOn with
  | _ u ih =>
    intro b hb
    rw [Lib.decDigits] at hb
    by_cases h : u < 10
    · rw [dif_pos h] at hb
      rw [List.mem_singleton] at hb
      subst hb
      exact dig_byte u h
    · rw [dif_neg h] at hb
      rcases List.mem_append.1 hb with hb | hb
      · exact ih (u / 10) (by omega) b hb
      · rw [List.mem_singleton] at hb
        subst hb
        exact dig_byte (u % 10) (by omega)
theorem itoa_digits (n : Int) (h : 0 ≤ n) : ∀ b ∈ Lib.itoa n, 48 ≤ b.toNat := by
  unfold Lib.itoa
  rw [if_neg (by omega)]
  exact digits _
/-- The text begins with a sign, or it is a row of digits (or none). -/
theorem atoi_cases (b : UInt8) (r : List UInt8) : (b.toNat < 48 ∧ Lib.decFrom 0 (b :: r) = none) ∨ Lib.atoi (b :: r) = (Lib.decFrom 0 (b :: r)).map fun m => (m : Int) := by
  by_cases h1 : b = 45
  · subst h1; exact Or.inl ⟨by decide, rfl⟩
  · by_cases h2 : b = 43
    · subst h2; exact Or.inl ⟨by decide, rfl⟩
    · refine Or.inr ?_
      simp [Lib.atoi, h1, h2, Lib.decNat]
      cases Lib.decFrom 0 (b :: r) <;> rfl
theorem in_range (n : Int) : impl_InRange.f n 0 1000000000000 = some (decide (0 ≤ n ∧ n ≤ 1000000000000)) := by
  unfold impl_InRange.f
  by_cases h : 0 ≤ n
  · rw [if_pos h]
    simp [h]
  · rw [if_neg h, decide_eq_false (by omega)]
theorem parseP_none (s : ByteArray) (h : Lib.decFrom 0 s.data.toList = none) : parseP s = (0, false) := by
  unfold parseP
  rw [h]
  split <;> rfl
theorem impl_at (s : ByteArray) (w : World) (htab : Lib.TabIs Tryd.prog w "internal/strconv.uint64pow10" .u64 Lib.pow10Tab) (tp : TypeId) (p : Value) (hvar : w.var? Tryd.prog "strconv.ErrSyntax" = some #[.iface tp p]) :
    Calls Tryd.prog 6 #[.string s] w fun e w' => e = .returned (.tuple #[.int .i64 (parseP s).1, .bool (parseP s).2]) ∧ Below w.heap.size w w' := by
  by_cases hsz : s.size ≤ 13
  rotate_left
  · have e : parseP s = (0, false) := by unfold parseP; rw [if_neg (by omega)]
    rw [e]
    exact MyInt.parse_long s (by omega) w
  cases hl : s.data.toList with
  | nil =>
    have e : parseP s = (0, false) := by unfold parseP; rw [if_neg (by rw [Lib.size_eq, hl]; simp)]
    rw [e]
    exact MyInt.parse_bad s hsz (by rw [hl]; rfl) tp p w hvar
  | cons b r =>
    have h1 : 1 ≤ s.size := by rw [Lib.size_eq, hl]; simp
    have same : ∀ n : Int, ((⟨(Lib.itoa n).toArray⟩ : ByteArray) = s) ↔ Lib.itoa n = b :: r := by
      intro n
      constructor
      · intro e
        rw [← hl, ← e]
      · intro e
        apply ByteArray.ext
        apply Array.ext'
        rw [hl]
        simpa using e
    rcases atoi_cases b r with ⟨hb, hd⟩ | ha
    · have e : parseP s = (0, false) := parseP_none s (by rw [hl]; exact hd)
      rw [e]
      cases ha : Lib.atoi s.data.toList with
      | none => exact MyInt.parse_bad s hsz ha tp p w hvar
      | some n =>
        by_cases hr : 0 ≤ n ∧ n ≤ 1000000000000
        · refine MyInt.parse_diff s hsz n (by omega) (by omega) ha (by rw [in_range, decide_eq_true hr]) (fun e2 => ?_) w htab
          have := itoa_digits n hr.1 b (by rw [(same n).1 e2]; simp)
          omega
        · exact MyInt.parse_out s hsz n ha (by rw [in_range, decide_eq_false hr]) w
    · have hp : parseP s = endP s (Lib.decFrom 0 (b :: r)) := by unfold parseP; rw [if_pos ⟨h1, hsz⟩, hl]
      rw [← hl] at ha
      cases hd : Lib.decFrom 0 (b :: r) with
      | none =>
        rw [hp, hd]
        rw [hl, hd] at ha
        exact MyInt.parse_bad s hsz (by rw [hl]; exact ha) tp p w hvar
      | some m =>
        rw [hp, hd]
        have ha2 : Lib.atoi s.data.toList = some (m : Int) := by rw [ha, hl, hd]; rfl
        by_cases hr : 1000000000000 < m
        · simp only [endP, if_pos hr]
          exact MyInt.parse_out s hsz m ha2 (by rw [in_range, decide_eq_false (by omega)]) w
        · have hin : impl_InRange.f (m : Int) 0 1000000000000 = some true := by rw [in_range, decide_eq_true (by omega)]
          by_cases he : (⟨(Lib.itoa (m : Int)).toArray⟩ : ByteArray) = s
          · simp only [endP, if_neg hr]
            rw [if_pos (by rw [he])]
            exact MyInt.parse_good s hsz m (by omega) (by omega) ha2 hin he w htab
          · simp only [endP, if_neg hr]
            rw [if_neg (fun e => he (by rw [Lib.toList_data, Lib.toList_data] at e; exact ByteArray.ext (Array.ext' e)))]
            exact MyInt.parse_diff s hsz m (by omega) (by omega) ha2 hin he w htab
end Go.Proofs.YtbjecehiappdeaaDoor.MyJoin
