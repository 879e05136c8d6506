/- spec.FormatInt is the library's Itoa at every integer that an int holds. No condition. -/
import Derived.Test.YtpahdiihojfeoaaDoorMySpec
import Derived.Lib.ItoaNum
namespace Go.Proofs.YtpahdiihojfeoaaDoor.MyPure
open Go.RowKit Go.Proofs.YtpahdiihojfeoaaDoorW.PrintWords Go.Proofs.YtpahdiihojfeoaaDoorW.PrintLast Go.Proofs.YtpahdiihojfeoaaDoorW.PrintMore
open Go.Proofs.YtpahdiihojfeoaaDoor.MySpec
theorem wrap_ok {n : Int} (h : -9223372036854775808 ≤ n ∧ n ≤ 9223372036854775807) : wrap64 n = n := by unfold wrap64; omega
theorem cat (a b : List UInt8) : ((⟨a.toArray⟩ : ByteArray) ++ ⟨b.toArray⟩) = ⟨(a ++ b).toArray⟩ := by
  apply ByteArray.ext
  simp
theorem len (a : List UInt8) : (⟨a.toArray⟩ : ByteArray).size = a.length := by simp [ByteArray.size]
theorem one_num (d : Nat) (h : d < 10) : strOfNums [(wrap64 (48 + (d : Int))) % 256] = ⟨[UInt8.ofNat (48 + d)].toArray⟩ := by
  rw [wrap_ok (by omega), Int.emod_eq_of_lt (by omega) (by omega)]
  have e : (48 + (d : Int)) = ((48 + d : Nat) : Int) := by omega
  rw [e]
  have e2 : strOfNums [((48 + d : Nat) : Int)] = ⟨[UInt8.ofNat (((48 + d : Nat) : Int)).toNat].toArray⟩ := rfl
  rw [e2, Int.toNat_natCast]
def fin (n : Int) (l : List UInt8) : List UInt8 := if n < 0 then 45 :: l else l
theorem last (n : Int) (acc : List UInt8) (h : acc.length ≤ 1000) (k : Nat) : spec_FormatInt.l0 (k + 1) n ⟨acc.toArray⟩ 0 = some ⟨(fin n acc).toArray⟩ := by
  simp only [spec_FormatInt.l0]
  rw [if_pos trivial, len]
  unfold fin
  by_cases hn : n < 0
  · rw [if_pos hn, if_pos hn, if_pos (by omega)]
    exact congrArg some (cat [45] acc)
  · rw [if_neg hn, if_neg hn]
theorem step (n x : Int) (d : Nat) (hx : x ≠ 0) (hr : -9223372036854775808 ≤ x ∧ x ≤ 9223372036854775807) (hd : (Int.tmod x 10).natAbs = d) (acc : List UInt8) (h : acc.length ≤ 1000) (k : Nat) :
    spec_FormatInt.l0 (k + 1) n ⟨acc.toArray⟩ x = spec_FormatInt.l0 k n ⟨(UInt8.ofNat (48 + d) :: acc).toArray⟩ (Int.tdiv x 10) := by
  have h1 := Int.natAbs_tmod x 10
  rw [show Int.natAbs 10 = 10 from rfl] at h1
  have hd10 : d < 10 := by omega
  have hq : wrap64 (Int.tdiv x 10) = Int.tdiv x 10 := wrap_ok (by
    have := Int.mul_tdiv_add_tmod x 10
    omega)
  have hc := cat [UInt8.ofNat (48 + d)] acc
  simp only [spec_FormatInt.l0]
  rw [if_neg hx]
  by_cases hs : Int.tmod x 10 < 0
  · have e : -(Int.tmod x 10) = (d : Int) := by omega
    have e2 : wrap64 (d : Int) = (d : Int) := wrap_ok (by omega)
    rw [if_pos hs, e, e2]
    simp only [Option.bind_some]
    rw [one_num d hd10, len, len, if_pos (by simp; omega), hq, hc]
    rfl
  · have e : Int.tmod x 10 = (d : Int) := by omega
    rw [if_neg hs, e]
    simp only [Option.bind_some]
    rw [one_num d hd10, len, len, if_pos (by simp; omega), hq, hc]
    rfl
theorem loop (n s : Int) (hs : s = 1 ∨ s = -1) : ∀ (m u : Nat) (acc : List UInt8), 1 ≤ u → u < 10 ^ m → m ≤ 30 → u ≤ 9223372036854775808 → (s = 1 → u ≤ 9223372036854775807) → acc.length + m ≤ 100 → ∃ K, ∀ k, K ≤ k → spec_FormatInt.l0 k n ⟨acc.toArray⟩ (s * (u : Int)) = some ⟨(fin n (Lib.decDigits u ++ acc)).toArray⟩ := by
  intro m
  induction m with
  | zero => intro u acc h1 h2; simp at h2; omega
  | succ m ih =>
    intro u acc h1 h2 hm hu hu1 hl
    have hx : s * (u : Int) ≠ 0 := by rcases hs with rfl | rfl <;> omega
    have hr : -9223372036854775808 ≤ s * (u : Int) ∧ s * (u : Int) ≤ 9223372036854775807 := by
      rcases hs with rfl | rfl
      · have := hu1 rfl; omega
      · omega
    have hd : (Int.tmod (s * (u : Int)) 10).natAbs = u % 10 := by
      rw [Int.natAbs_tmod, show Int.natAbs 10 = 10 from rfl, show (s * (u : Int)).natAbs = u by rcases hs with rfl | rfl <;> omega]
    have hq : Int.tdiv (s * (u : Int)) 10 = s * ((u / 10 : Nat) : Int) := by
      have e := Int.mul_tdiv_add_tmod (s * (u : Int)) 10
      have hsg : (0 ≤ s * (u : Int) → 0 ≤ Int.tmod (s * (u : Int)) 10) := fun h => Int.tmod_nonneg _ h
      have hsg2 : (0 ≤ -(s * (u : Int)) → 0 ≤ Int.tmod (-(s * (u : Int))) 10) := fun h => Int.tmod_nonneg _ h
      rw [Int.neg_tmod] at hsg2
      rcases hs with rfl | rfl <;> omega
    by_cases h10 : u < 10
    · refine ⟨2, fun k hk => ?_⟩
      obtain ⟨k, rfl⟩ : ∃ j, k = j + 1 + 1 := ⟨k - 2, by omega⟩
      rw [step n _ (u % 10) hx hr hd acc (by omega), hq, show u / 10 = 0 by omega]
      rw [show s * ((0 : Nat) : Int) = 0 by simp, last n _ (by simp; omega)]
      rw [Lib.decDigits, dif_pos h10, show u % 10 = u by omega]
      rfl
    · obtain ⟨K, hK⟩ := ih (u / 10) (UInt8.ofNat (48 + u % 10) :: acc) (by omega) (by rw [Nat.pow_succ] at h2; omega) (by omega) (by omega) (by intro; omega) (by simp; omega)
      refine ⟨K + 1, fun k hk => ?_⟩
      obtain ⟨k, rfl⟩ : ∃ j, k = j + 1 := ⟨k - 1, by omega⟩
      rw [step n _ (u % 10) hx hr hd acc (by omega), hq, hK k (by omega)]
      have e := Lib.decDigits.eq_1 u
      rw [dif_neg h10] at e
      rw [e]
      simp
theorem pure (n : Int) (h0 : -9223372036854775808 ≤ n) (h1 : n ≤ 9223372036854775807) : ∃ k, spec_FormatInt.f k n = some ⟨(Lib.itoa n).toArray⟩ := by
  unfold spec_FormatInt.f
  by_cases hz : n = 0
  · refine ⟨0, ?_⟩
    rw [if_pos hz]
    subst hz
    have e : Lib.itoa 0 = [48] := by
      unfold Lib.itoa
      rw [if_neg (by omega), Lib.decDigits, dif_pos (by decide)]
      rfl
    rw [e]
  · have hp : (10 : Nat) ^ 20 = 100000000000000000000 := by decide
    by_cases hn : n < 0
    · obtain ⟨K, hK⟩ := loop n (-1) (Or.inr rfl) 20 n.natAbs [] (by omega) (by omega) (by omega) (by omega) (by intro h; omega) (by simp)
      refine ⟨K, ?_⟩
      rw [if_neg hz]
      have e := hK K (Nat.le_refl _)
      rw [show (-1 : Int) * ((n.natAbs : Nat) : Int) = n by omega] at e
      refine e.trans ?_
      unfold fin Lib.itoa
      rw [if_pos hn, if_pos hn, List.append_nil]
    · obtain ⟨K, hK⟩ := loop n 1 (Or.inl rfl) 20 n.toNat [] (by omega) (by omega) (by omega) (by omega) (by intro h; omega) (by simp)
      refine ⟨K, ?_⟩
      rw [if_neg hz]
      have e := hK K (Nat.le_refl _)
      rw [show (1 : Int) * ((n.toNat : Nat) : Int) = n by omega] at e
      refine e.trans ?_
      unfold fin Lib.itoa
      rw [if_neg hn, if_neg hn, List.append_nil]
end Go.Proofs.YtpahdiihojfeoaaDoor.MyPure
