/- spec.FormatInt is the library's Itoa at every integer that an int holds, and spec.ParseInt reads a row of digits. No condition. -/
import Derived.Test.YtbjecehiappdeaaDoorMySpec
import Derived.Lib.ItoaNum
import Derived.Lib.Atoi
import Derived.Lib.Strings
import Derived.ProofKit
namespace Go.Proofs.YtbjecehiappdeaaDoor.MyPure
open Go.RowKit Go.Proofs.YtbjecehiappdeaaDoorW.PrintWords Go.Proofs.YtbjecehiappdeaaDoorW.PrintLast Go.Proofs.YtbjecehiappdeaaDoorW.PrintMore
open Go.Proofs.YtbjecehiappdeaaDoor.MySpec
theorem wrap_ok {n : Int} (h : -9223372036854775808 ≤ n ∧ n ≤ 9223372036854775807) : wrap64 n = n := by unfold wrap64; omega
theorem cat (a b : List UInt8) : ((⟨a.toArray⟩ : ByteArray) ++ ⟨b.toArray⟩) = ⟨(a ++ b).toArray⟩ := by
  apply ByteArray.ext
  simp
theorem len (a : List UInt8) : (⟨a.toArray⟩ : ByteArray).size = a.length := by simp [ByteArray.size]
theorem one_num (d : Nat) (h : d < 10) : strOfNums [(wrap64 (48 + (d : Int))) % 256] = ⟨[UInt8.ofNat (48 + d)].toArray⟩ := by
  rw [wrap_ok (by omega), Int.emod_eq_of_lt (by omega) (by omega)]
  have e : (48 + (d : Int)) = ((48 + d : Nat) : Int) := by omega
  rw [e]
  have e2 : strOfNums [((48 + d : Nat) : Int)] = ⟨[UInt8.ofNat (((48 + d : Nat) : Int)).toNat].toArray⟩ := rfl
  rw [e2, Int.toNat_natCast]
def fin (n : Int) (l : List UInt8) : List UInt8 := if n < 0 then 45 :: l else l
theorem last (n : Int) (acc : List UInt8) (h : acc.length ≤ 1000) (k : Nat) : spec_FormatInt.l0 (k + 1) n ⟨acc.toArray⟩ 0 = some ⟨(fin n acc).toArray⟩ := by
  simp only [spec_FormatInt.l0]
  rw [if_pos trivial, len]
  unfold fin
  by_cases hn : n < 0
  · rw [if_pos hn, if_pos hn, if_pos (by omega)]
    exact congrArg some (cat [45] acc)
  · rw [if_neg hn, if_neg hn]
theorem step (n x : Int) (d : Nat) (hx : x ≠ 0) (hr : -9223372036854775808 ≤ x ∧ x ≤ 9223372036854775807) (hd : (Int.tmod x 10).natAbs = d) (acc : List UInt8) (h : acc.length ≤ 1000) (k : Nat) :
    spec_FormatInt.l0 (k + 1) n ⟨acc.toArray⟩ x = spec_FormatInt.l0 k n ⟨(UInt8.ofNat (48 + d) :: acc).toArray⟩ (Int.tdiv x 10) := by
  have h1 := Int.natAbs_tmod x 10
  rw [show Int.natAbs 10 = 10 from rfl] at h1
  have hd10 : d < 10 := by omega
  have hq : wrap64 (Int.tdiv x 10) = Int.tdiv x 10 := wrap_ok (by
    have := Int.mul_tdiv_add_tmod x 10
    omega)
  have hc := cat [UInt8.ofNat (48 + d)] acc
  simp only [spec_FormatInt.l0]
  rw [if_neg hx]
  by_cases hs : Int.tmod x 10 < 0
  · have e : -(Int.tmod x 10) = (d : Int) := by omega
    have e2 : wrap64 (d : Int) = (d : Int) := wrap_ok (by omega)
    rw [if_pos hs, e, e2]
    simp only [Option.bind_some]
    rw [one_num d hd10, len, len, if_pos (by simp; omega), hq, hc]
    rfl
  · have e : Int.tmod x 10 = (d : Int) := by omega
    rw [if_neg hs, e]
    simp only [Option.bind_some]
    rw [one_num d hd10, len, len, if_pos (by simp; omega), hq, hc]
    rfl
theorem loop (n s : Int) (hs : s = 1 ∨ s = -1) : ∀ (m u : Nat) (acc : List UInt8), 1 ≤ u → u < 10 ^ m → m ≤ 30 → u ≤ 9223372036854775808 → (s = 1 → u ≤ 9223372036854775807) → acc.length + m ≤ 100 → ∃ K, ∀ k, K ≤ k → spec_FormatInt.l0 k n ⟨acc.toArray⟩ (s * (u : Int)) = some ⟨(fin n (Lib.decDigits u ++ acc)).toArray⟩ := by
  intro m
  induction m with
  | zero => intro u acc h1 h2; simp at h2; omega
  | succ m ih =>
    intro u acc h1 h2 hm hu hu1 hl
    have hx : s * (u : Int) ≠ 0 := by rcases hs with rfl | rfl <;> omega
    have hr : -9223372036854775808 ≤ s * (u : Int) ∧ s * (u : Int) ≤ 9223372036854775807 := by
      rcases hs with rfl | rfl
      · have := hu1 rfl; omega
      · omega
    have hd : (Int.tmod (s * (u : Int)) 10).natAbs = u % 10 := by
      rw [Int.natAbs_tmod, show Int.natAbs 10 = 10 from rfl, show (s * (u : Int)).natAbs = u by rcases hs with rfl | rfl <;> omega]
    have hq : Int.tdiv (s * (u : Int)) 10 = s * ((u / 10 : Nat) : Int) := by
      have e := Int.mul_tdiv_add_tmod (s * (u : Int)) 10
      have hsg : (0 ≤ s * (u : Int) → 0 ≤ Int.tmod (s * (u : Int)) 10) := fun h => Int.tmod_nonneg _ h
      have hsg2 : (0 ≤ -(s * (u : Int)) → 0 ≤ Int.tmod (-(s * (u : Int))) 10) := fun h => Int.tmod_nonneg _ h
      rw [Int.neg_tmod] at hsg2
      rcases hs with rfl | rfl <;> omega
    by_cases h10 : u < 10
    · refine ⟨2, fun k hk => ?_⟩
      obtain ⟨k, rfl⟩ : ∃ j, k = j + 1 + 1 := ⟨k - 2, by omega⟩
      rw [step n _ (u % 10) hx hr hd acc (by omega), hq, show u / 10 = 0 by omega]
      rw [show s * ((0 : Nat) : Int) = 0 by simp, last n _ (by simp; omega)]
      rw [Lib.decDigits, dif_pos h10, show u % 10 = u by omega]
      rfl
    · obtain ⟨K, hK⟩ := ih (u / 10) (UInt8.ofNat (48 + u % 10) :: acc) (by omega) (by rw [Nat.pow_succ] at h2; omega) (by omega) (by omega) (by intro; omega) (by simp; omega)
      refine ⟨K + 1, fun k hk => ?_⟩
      obtain ⟨k, rfl⟩ : ∃ j, k = j + 1 := ⟨k - 1, by omega⟩
      rw [step n _ (u % 10) hx hr hd acc (by omega), hq, hK k (by omega)]
      have e := Lib.decDigits.eq_1 u
      rw [dif_neg h10] at e
      rw [e]
      simp
theorem pure (n : Int) (h0 : -9223372036854775808 ≤ n) (h1 : n ≤ 9223372036854775807) : ∃ K, ∀ k, K ≤ k → spec_FormatInt.f k n = some ⟨(Lib.itoa n).toArray⟩ := by
  unfold spec_FormatInt.f
  by_cases hz : n = 0
  · refine ⟨0, fun k _ => ?_⟩
    rw [if_pos hz]
    subst hz
    have e : Lib.itoa 0 = [48] := by
      unfold Lib.itoa
      rw [if_neg (by omega), Lib.decDigits, dif_pos (by decide)]
      rfl
    rw [e]
  · have hp : (10 : Nat) ^ 20 = 100000000000000000000 := by decide
    by_cases hn : n < 0
    · obtain ⟨K, hK⟩ := loop n (-1) (Or.inr rfl) 20 n.natAbs [] (by omega) (by omega) (by omega) (by omega) (by intro h; omega) (by simp)
      refine ⟨K, fun k hk => ?_⟩
      rw [if_neg hz]
      have e := hK k hk
      rw [show (-1 : Int) * ((n.natAbs : Nat) : Int) = n by omega] at e
      refine e.trans ?_
      unfold fin Lib.itoa
      rw [if_pos hn, if_pos hn, List.append_nil]
    · obtain ⟨K, hK⟩ := loop n 1 (Or.inl rfl) 20 n.toNat [] (by omega) (by omega) (by omega) (by omega) (by intro h; omega) (by simp)
      refine ⟨K, fun k hk => ?_⟩
      rw [if_neg hz]
      have e := hK k hk
      rw [show (1 : Int) * ((n.toNat : Nat) : Int) = n by omega] at e
      refine e.trans ?_
      unfold fin Lib.itoa
      rw [if_neg hn, if_neg hn, List.append_nil]
/-! ### spec.ParseInt -/
def endP (s : ByteArray) : Option Nat → Int × Bool
  | none => (0, false)
  | some m => if 1000000000000 < m then (0, false) else if (⟨(Lib.itoa (m : Int)).toArray⟩ : ByteArray).toList = s.toList then ((m : Int), true) else (0, false)
theorem bt_mid (s : ByteArray) (pre : List UInt8) (b : UInt8) (suf : List UInt8) (h : s.data.toList = pre ++ b :: suf) : bt s (pre.length : Int) = (b.toNat : Int) := by
  have hlt : pre.length < s.size := by
    rw [Lib.size_eq, h]
    simp
  unfold bt
  rw [Int.toNat_natCast, dif_pos hlt]
  have : s[pre.length] = b := by
    have e : s.data.toList[pre.length]? = some b := by rw [h]; simp
    have e2 : s.data.toList[pre.length]? = some s.data[pre.length] := by simp
    rw [e2] at e
    exact Option.some.inj e
  rw [this]
theorem spec_loop (s : ByteArray) (hsz : s.size ≤ 13) : ∀ (suf pre : List UInt8) (acc : Nat), s.data.toList = pre ++ suf → acc < 10 ^ pre.length → Ev (fun k => spec_ParseInt.l0 k s (acc : Int) (pre.length : Int)) (endP s (Lib.decFrom acc suf)) := by
  intro suf
  induction suf with
  | nil =>
    intro pre acc h ha
    have hl : s.size = pre.length := by rw [Lib.size_eq, h]; simp
    have hp : (10 : Nat) ^ pre.length ≤ 10 ^ 13 := Nat.pow_le_pow_right (by omega) (by omega)
    have hb : acc < 10000000000000 := Nat.lt_of_lt_of_le ha hp
    by_cases hg : 1000000000000 < acc
    · refine Ev.step (f := fun _ => some (0, false)) (fun k => ?_) (by simp only [Lib.decFrom, endP, if_pos hg]; exact Ev.now _)
      simp only [spec_ParseInt.l0]
      rw [if_neg (by omega), if_pos (by omega)]
    · have hf := pure (acc : Int) (by omega) (by omega)
      refine Ev.step (f := fun k => (spec_FormatInt.f k (acc : Int)).bind fun t => if t.toList = s.toList then some ((acc : Int), true) else some (0, false)) (fun k => ?_) ?_
      · simp only [spec_ParseInt.l0]
        rw [if_neg (by omega), if_neg (by omega)]
      · refine Ev.bind hf ?_
        refine ⟨0, fun k _ => ?_⟩
        simp only [Lib.decFrom, endP, if_neg hg]
        split <;> rfl
  | cons b suf ih =>
    intro pre acc h ha
    have hl : s.size = pre.length + (suf.length + 1) := by rw [Lib.size_eq, h]; simp
    have hp : (10 : Nat) ^ pre.length ≤ 10 ^ 12 := Nat.pow_le_pow_right (by omega) (by omega)
    have hb : acc < 1000000000000 := Nat.lt_of_lt_of_le ha hp
    have hbt := bt_mid s pre b suf h
    have hb2 := b.toNat_lt
    have hsn : wrap64 ((pre.length : Int) + 1) = (((pre ++ [b]).length : Nat) : Int) := by rw [wrap_ok (by omega)]; simp
    by_cases hd : 48 ≤ b.toNat ∧ b.toNat ≤ 57
    · have hin : spec_l1In.f (wrap64 (b.toNat : Int)) 48 57 = some true := by
        unfold spec_l1In.f
        rw [wrap_ok (by omega), if_pos (by omega), decide_eq_true (by omega)]
      have hv : Lib.digitVal b = some (b.toNat - 48) := by unfold Lib.digitVal; rw [if_pos hd]
      have hacc : wrap64 ((wrap64 (10 * (acc : Int))) + (((b.toNat : Int) - 48) % 256)) = ((acc * 10 + (b.toNat - 48) : Nat) : Int) := by
        rw [wrap_ok (n := 10 * (acc : Int)) (by omega), wrap_ok (by omega)]
        omega
      have e : Lib.decFrom acc (b :: suf) = Lib.decFrom (acc * 10 + (b.toNat - 48)) suf := by simp only [Lib.decFrom, hv]
      rw [e]
      refine Ev.step (fun k => ?_) (ih (pre ++ [b]) (acc * 10 + (b.toNat - 48)) (by rw [h]; simp) (by rw [List.length_append, List.length_singleton, Nat.pow_succ]; omega))
      simp only [spec_ParseInt.l0]
      rw [if_pos (by omega), if_pos (by omega), hbt, hin]
      simp only [Option.bind_some]
      rw [if_pos trivial, hacc, hsn]
    · have hin : spec_l1In.f (wrap64 (b.toNat : Int)) 48 57 = some false := by
        unfold spec_l1In.f
        rw [wrap_ok (by omega)]
        by_cases h48 : (b.toNat : Int) ≥ 48
        · rw [if_pos h48, decide_eq_false (by omega)]
        · rw [if_neg h48]
      have hv : Lib.digitVal b = none := by unfold Lib.digitVal; rw [if_neg hd]
      have e : Lib.decFrom acc (b :: suf) = none := by simp only [Lib.decFrom, hv]
      rw [e]
      refine Ev.step (f := fun _ => some (0, false)) (fun k => ?_) (Ev.now _)
      simp only [spec_ParseInt.l0]
      rw [if_pos (by omega), if_pos (by omega), hbt, hin]
      rfl
end Go.Proofs.YtbjecehiappdeaaDoor.MyPure
