/- The law FnExactSameCards returns true at every two lists of integers: the program's SameCards answers as the reference's and leaves its arguments. No condition. -/
import Derived.Test.YtbjecehiappdeabQFnExactSameCardsx4
import Derived.Test.YtbjecehiappdeabWSized
namespace Go.Proofs.Ytbjecehiappdeab.Pure
open Go.RowKit Go.Proofs.Ytbjecehiappdeab.QFnExactSameCards Go.Proofs.YtbjecehiappdeabW.PrintWords Go.Proofs.YtbjecehiappdeabW.PrintLast Go.Proofs.YtbjecehiappdeabW.PrintMore
set_option linter.unusedVariables false
set_option linter.unusedSimpArgs false

/-! ### Words on rounds and on lists -/
theorem ev_bind {α β : Type} {g : Nat → Option α} {f : Nat → α → Option β} {a : α} {r : β} (h : Ev g a) (k : Ev (fun n => f n a) r) : Ev (fun n => (g n).bind (f n)) r := Ev.bind h k
theorem ev_call {α β : Type} {o : Option α} {f : Nat → α → Option β} {a : α} {r : β} (h : o = some a) (k : Ev (fun n => f n a) r) : Ev (fun n => o.bind (f n)) r := by
  subst h; exact k
theorem ev_pos {α : Type} {c : Prop} [Decidable c] {f g : Nat → Option α} {r : α} (h : c) (e : Ev f r) : Ev (fun n => if c then f n else g n) r := by
  obtain ⟨K, hK⟩ := e
  exact ⟨K, fun n hn => by show (if c then f n else g n) = some r; rw [if_pos h]; exact hK n hn⟩
theorem ev_neg {α : Type} {c : Prop} [Decidable c] {f g : Nat → Option α} {r : α} (h : ¬ c) (e : Ev g r) : Ev (fun n => if c then f n else g n) r := by
  obtain ⟨K, hK⟩ := e
  exact ⟨K, fun n hn => by show (if c then f n else g n) = some r; rw [if_neg h]; exact hK n hn⟩
theorem ev_end {α : Type} {g : Nat → Option α} {r : α} (h : ∀ k, g (k + 1) = some r) : Ev g r := Ev.step (f := fun _ => some r) h (Ev.now r)
theorem ev_eq {α : Type} {g : Nat → Option α} {r r' : α} (h : Ev g r) (e : r = r') : Ev g r' := e ▸ h
theorem ev_some {α : Type} {g : Nat → Option α} {r : α} (h : ∀ k, g k = some r) : Ev g r := ⟨0, fun k _ => h k⟩
theorem wrap_ok {n : Int} (h : -9223372036854775808 ≤ n ∧ n ≤ 9223372036854775807) : wrap64 n = n := by unfold wrap64; omega
theorem rd_mid (pre : List Int) (x : Int) (suf : List Int) : rd (pre ++ x :: suf) (pre.length : Int) = x := by simp [rd]
theorem snoc_len (pre : List Int) (x : Int) : (((pre ++ [x]).length : Nat) : Int) = (pre.length : Int) + 1 := by simp
theorem mid_facts {l pre suf : List Int} {x : Int} (h : l = pre ++ x :: suf) (hl : l.length ≤ 35184372088832) :
    (pre.length : Int) < (l.length : Int) ∧ rd l (pre.length : Int) = x ∧ wrap64 ((pre.length : Int) + 1) = (((pre ++ [x]).length : Nat) : Int) ∧ l = (pre ++ [x]) ++ suf := by
  have hlen : l.length = pre.length + (suf.length + 1) := by rw [h]; simp
  refine ⟨by omega, by rw [h]; exact rd_mid pre x suf, ?_, by rw [h]; simp⟩
  rw [snoc_len]
  exact wrap_ok (by omega)
theorem end_facts {l pre : List Int} (h : l = pre ++ []) : l = pre ∧ ¬ (pre.length : Int) < (l.length : Int) := by
  rw [List.append_nil] at h
  subst h
  exact ⟨rfl, by omega⟩
/-- The marks m, m + 1, .. -/
def marks : Int → Nat → List Int
  | _, 0 => []
  | m, n + 1 => m :: marks (m + 1) n
theorem marks_length (m : Int) (n : Nat) : (marks m n).length = n := by
  induction n generalizing m with
  | zero => rfl
  | succ n ih => simp [marks, ih]

/-! ### The law's own helpers on slices of int -/
theorem toIntS_loop (l : List Int) (hl : l.length ≤ 35184372088832) : ∀ (suf pre : List Int), l = pre ++ suf → Ev (fun k => laws_toIntS.l0 k l (pre ++ List.replicate suf.length 0) (pre.length : Int)) l := by
  intro suf
  induction suf with
  | nil =>
    intro pre h
    obtain ⟨h1, h2⟩ := end_facts h
    refine ev_end fun k => ?_
    simp only [laws_toIntS.l0]
    rw [if_neg h2]
    simp [h1]
  | cons x suf ih =>
    intro pre h
    obtain ⟨h1, h2, h3, h4⟩ := mid_facts h hl
    refine Ev.step (fun k => ?_) (ih (pre ++ [x]) h4)
    simp only [laws_toIntS.l0]
    rw [if_pos h1, if_pos (by omega), if_pos (by simp; omega), h2, h3]
    congr 1
    simp [List.replicate_succ]
theorem toIntS_ev (l : List Int) (hl : l.length ≤ 35184372088832) : Ev (fun k => laws_toIntS.f k l) l := by
  refine Ev.congr (fun k => ?_) (toIntS_loop l hl l [] rfl)
  unfold laws_toIntS.f
  rw [if_pos (by omega), if_pos (by omega)]
  rfl

theorem eqIntS_loop (a b : List Int) (hl : a.length ≤ 35184372088832) : ∀ (s1 s2 p1 p2 : List Int), a = p1 ++ s1 → b = p2 ++ s2 → p1.length = p2.length → s1.length = s2.length → Ev (fun k => laws_eqIntS.l0 k a b (p1.length : Int)) (decide (s1 = s2)) := by
  intro s1
  induction s1 with
  | nil =>
    intro s2 p1 p2 ha hb hp hs
    obtain rfl : s2 = [] := List.eq_nil_of_length_eq_zero hs.symm
    obtain ⟨_, h2⟩ := end_facts ha
    refine ev_end fun k => ?_
    simp only [laws_eqIntS.l0]
    rw [if_neg h2]
    simp
  | cons x s1 ih =>
    intro s2 p1 p2 ha hb hp hs
    cases s2 with
    | nil => simp at hs
    | cons y s2 =>
    obtain ⟨h1, h2, h3, h4⟩ := mid_facts ha hl
    have hb1 : b.length = p2.length + (s2.length + 1) := by rw [hb]; simp
    have hb2 : rd b (p1.length : Int) = y := by rw [hp, hb]; exact rd_mid p2 y s2
    have hb3 : b = (p2 ++ [y]) ++ s2 := by rw [hb]; simp
    by_cases hxy : x = y
    · refine Ev.step (fun k => ?_) (ev_eq (ih s2 (p1 ++ [x]) (p2 ++ [y]) h4 hb3 (by simp [hp]) (by simpa using hs)) (by simp [hxy]))
      simp only [laws_eqIntS.l0]
      rw [if_pos h1, if_pos (by omega), if_pos (by omega), h2, hb2, if_pos hxy, h3]
    · refine ev_end fun k => ?_
      simp only [laws_eqIntS.l0]
      rw [if_pos h1, if_pos (by omega), if_pos (by omega), h2, hb2, if_neg hxy]
      simp [hxy]
theorem eqIntS_ev (a b : List Int) (hl : a.length ≤ 35184372088832) : Ev (fun k => laws_eqIntS.f k a b) (decide (a = b)) := by
  by_cases h : a.length = b.length
  · refine Ev.congr (fun k => ?_) (eqIntS_loop a b hl a b [] [] rfl rfl rfl h)
    unfold laws_eqIntS.f
    rw [if_pos (by omega)]
    rfl
  · refine ev_some fun k => ?_
    unfold laws_eqIntS.f
    rw [if_neg (by omega)]
    have : a ≠ b := fun e => h (by rw [e])
    simp [this]
theorem eqIntS_same (a : List Int) (hl : a.length ≤ 35184372088832) : Ev (fun k => laws_eqIntS.f k a a) true := ev_eq (eqIntS_ev a a hl) (by simp)


theorem specEq_loop (a b : List Int) (hl : a.length ≤ 35184372088832) : ∀ (s1 s2 p1 p2 : List Int), a = p1 ++ s1 → b = p2 ++ s2 → p1.length = p2.length → s1.length = s2.length → Ev (fun k => spec_EqualInts.l0 k a b (p1.length : Int)) (decide (s1 = s2)) := by
  intro s1
  induction s1 with
  | nil =>
    intro s2 p1 p2 ha hb hp hs
    obtain rfl : s2 = [] := List.eq_nil_of_length_eq_zero hs.symm
    obtain ⟨_, h2⟩ := end_facts ha
    refine ev_end fun k => ?_
    simp only [spec_EqualInts.l0]
    rw [if_neg h2]
    simp
  | cons x s1 ih =>
    intro s2 p1 p2 ha hb hp hs
    cases s2 with
    | nil => simp at hs
    | cons y s2 =>
    obtain ⟨h1, h2, h3, h4⟩ := mid_facts ha hl
    have hb1 : b.length = p2.length + (s2.length + 1) := by rw [hb]; simp
    have hb2 : rd b (p1.length : Int) = y := by rw [hp, hb]; exact rd_mid p2 y s2
    have hb3 : b = (p2 ++ [y]) ++ s2 := by rw [hb]; simp
    by_cases hxy : x = y
    · refine Ev.step (fun k => ?_) (ev_eq (ih s2 (p1 ++ [x]) (p2 ++ [y]) h4 hb3 (by simp [hp]) (by simpa using hs)) (by simp [hxy]))
      simp only [spec_EqualInts.l0]
      rw [if_pos h1, if_pos (by omega), if_pos (by omega), h2, hb2, if_pos hxy, h3]
    · refine ev_end fun k => ?_
      simp only [spec_EqualInts.l0]
      rw [if_pos h1, if_pos (by omega), if_pos (by omega), h2, hb2, if_neg hxy]
      simp [hxy]
theorem specEq_ev (a b : List Int) (hl : a.length ≤ 35184372088832) : Ev (fun k => spec_EqualInts.f k a b) (decide (a = b)) := by
  by_cases h : a.length = b.length
  · refine Ev.congr (fun k => ?_) (specEq_loop a b hl a b [] [] rfl rfl rfl h)
    unfold spec_EqualInts.f
    rw [if_pos (by omega)]
    rfl
  · refine ev_some fun k => ?_
    unfold spec_EqualInts.f
    rw [if_neg (by omega)]
    have : a ≠ b := fun e => h (by rw [e])
    simp [this]

theorem implEq_loop (a b : List Int) (hl : a.length ≤ 35184372088832) : ∀ (s1 s2 p1 p2 : List Int), a = p1 ++ s1 → b = p2 ++ s2 → p1.length = p2.length → s1.length = s2.length → Ev (fun k => impl_EqualInts.l0 k a b (a.length : Int) (p1.length : Int)) (decide (s1 = s2)) := by
  intro s1
  induction s1 with
  | nil =>
    intro s2 p1 p2 ha hb hp hs
    obtain rfl : s2 = [] := List.eq_nil_of_length_eq_zero hs.symm
    obtain ⟨_, h2⟩ := end_facts ha
    refine ev_end fun k => ?_
    simp only [impl_EqualInts.l0]
    rw [if_neg h2]
    simp
  | cons x s1 ih =>
    intro s2 p1 p2 ha hb hp hs
    cases s2 with
    | nil => simp at hs
    | cons y s2 =>
    obtain ⟨h1, h2, h3, h4⟩ := mid_facts ha hl
    have hb1 : b.length = p2.length + (s2.length + 1) := by rw [hb]; simp
    have hb2 : rd b (p1.length : Int) = y := by rw [hp, hb]; exact rd_mid p2 y s2
    have hb3 : b = (p2 ++ [y]) ++ s2 := by rw [hb]; simp
    by_cases hxy : x = y
    · refine Ev.step (fun k => ?_) (ev_eq (ih s2 (p1 ++ [x]) (p2 ++ [y]) h4 hb3 (by simp [hp]) (by simpa using hs)) (by simp [hxy]))
      simp only [impl_EqualInts.l0]
      rw [if_pos h1, if_pos (by omega), if_pos (by omega), if_pos (by omega), h2, hb2, if_pos hxy, h3]
    · refine ev_end fun k => ?_
      simp only [impl_EqualInts.l0]
      rw [if_pos h1, if_pos (by omega), if_pos (by omega), if_pos (by omega), h2, hb2, if_neg hxy]
      simp [hxy]
theorem implEq_ev (a b : List Int) (hl : a.length ≤ 35184372088832) : Ev (fun k => impl_EqualInts.f k a b) (decide (a = b)) := by
  by_cases h : a.length = b.length
  · refine Ev.congr (fun k => ?_) (implEq_loop a b hl a b [] [] rfl rfl rfl h)
    unfold impl_EqualInts.f
    rw [if_pos (by omega)]
    rfl
  · refine ev_some fun k => ?_
    unfold impl_EqualInts.f
    rw [if_neg (by omega)]
    have : a ≠ b := fun e => h (by rw [e])
    simp [this]

/-! ### Insertion sort -/
def posP (v : Int) (ys : List Int) : Nat → Nat
  | 0 => 0
  | k + 1 => if rd ys (k : Int) > v then posP v ys k else k + 1
theorem posP_le (v : Int) (ys : List Int) : ∀ k, posP v ys k ≤ k
  | 0 => Nat.le_refl _
  | k + 1 => by
    unfold posP
    have := posP_le v ys k
    split <;> omega
def putP (ys : List Int) (p : Nat) (v : Int) : List Int := ys.take p ++ v :: ys.drop p
def insP (ys : List Int) (v : Int) : List Int := putP ys (posP v ys ys.length) v
def sortP (l : List Int) : List Int := l.foldl insP []
theorem putP_len (ys : List Int) (p : Nat) (v : Int) (h : p ≤ ys.length) : (putP ys p v).length = ys.length + 1 := by
  unfold putP
  rw [List.length_append, List.length_cons, List.length_take, List.length_drop]
  omega
theorem insP_len (ys : List Int) (v : Int) : (insP ys v).length = ys.length + 1 := putP_len _ _ _ (posP_le _ _ _)
theorem foldIns_len (l : List Int) : ∀ acc : List Int, (l.foldl insP acc).length = acc.length + l.length := by
  induction l with
  | nil => intro acc; rfl
  | cons x l ih =>
    intro acc
    rw [List.foldl_cons, ih, insP_len, List.length_cons]
    omega
theorem sortP_len (l : List Int) : (sortP l).length = l.length := by
  unfold sortP
  rw [foldIns_len]
  simp

theorem shift_set (ys : List Int) (p : Nat) (v : Int) (hp : p ≤ ys.length) : (impl_Sorted.sh (ys ++ [0]) p).set p v = putP ys p v := by
  obtain ⟨a, b, rfl, ha⟩ : ∃ a b : List Int, ys = a ++ b ∧ a.length = p := ⟨ys.take p, ys.drop p, (List.take_append_drop _ _).symm, by rw [List.length_take]; omega⟩
  subst ha
  obtain ⟨x, xs, hx⟩ : ∃ x xs, b ++ [0] = x :: xs := by
    cases b with
    | nil => exact ⟨0, [], rfl⟩
    | cons y b => exact ⟨y, b ++ [0], rfl⟩
  unfold impl_Sorted.sh splice putP
  have e1 : ((a ++ b) ++ [0]).drop a.length = b ++ [0] := by rw [List.append_assoc, List.drop_left]
  have e2 : (b ++ [0]).take (((a ++ b) ++ [0]).length - (a.length + 1)) = b := by
    have e5 : ((a ++ b) ++ [(0 : Int)]).length - (a.length + 1) = b.length := by simp; omega
    rw [e5]
    exact List.take_left ..
  have e3 : ((a ++ b) ++ [0]).take (a.length + 1) = a ++ [x] := by
    rw [List.append_assoc, hx, List.take_append]
    simp
    exact List.take_of_length_le (by omega)
  have e4 : ((a ++ b) ++ [0]).drop (a.length + 1 + b.length) = [] := List.drop_eq_nil_of_le (by simp; omega)
  rw [e1, e2, e3, e4, List.append_nil, List.append_assoc, List.set_append_right _ _ (Nat.le_refl _)]
  simp
theorem implSort_in (l ys : List Int) (v : Int) (n i : Int) (hy : ys.length ≤ 1048576) (r : List Int) : ∀ j : Nat, j ≤ ys.length → Ev (fun k => impl_Sorted.l0 k (putP ys (posP v ys j) v) l n (wrap64 (i + 1))) r → Ev (fun k => impl_Sorted.l1 k ys v (j : Int) l n i) r := by
  have hlz : (ys ++ [(0 : Int)]).length = ys.length + 1 := by simp
  intro j
  induction j with
  | zero =>
    intro _ h
    refine Ev.step (fun k => ?_) h
    simp only [impl_Sorted.l1]
    rw [if_neg (by omega), if_pos (by omega)]
    simp only [Option.bind_some]
    rw [if_pos (by omega), if_pos (by omega)]
    rw [Int.toNat_natCast, shift_set ys 0 v (by omega)]
    rfl
  | succ j ih =>
    intro hj h
    have hw : wrap64 (((j + 1 : Nat) : Int) - 1) = (j : Int) := by rw [wrap_ok (by omega)]; omega
    unfold posP at h
    by_cases hc : rd ys (j : Int) > v
    · rw [if_pos hc] at h
      refine Ev.step (fun k => ?_) (ih (by omega) h)
      simp only [impl_Sorted.l1]
      rw [if_pos (by omega), hw, if_pos (by omega), if_pos (by omega), if_pos hc]
    · rw [if_neg hc] at h
      refine Ev.step (fun k => ?_) h
      simp only [impl_Sorted.l1]
      rw [if_pos (by omega), hw, if_pos (by omega), if_pos (by omega), if_neg hc, if_pos (by omega)]
      simp only [Option.bind_some]
      rw [if_pos (by omega), if_pos (by omega)]
      rw [Int.toNat_natCast, shift_set ys (j + 1) v (by omega)]
theorem implSort_loop (l : List Int) (hl : l.length ≤ 1048576) : ∀ (suf pre acc : List Int), l = pre ++ suf → acc.length = pre.length → Ev (fun k => impl_Sorted.l0 k acc l (l.length : Int) (pre.length : Int)) (suf.foldl insP acc) := by
  intro suf
  induction suf with
  | nil =>
    intro pre acc h hacc
    obtain ⟨_, h2⟩ := end_facts h
    refine ev_end fun k => ?_
    simp only [impl_Sorted.l0]
    rw [if_neg h2]
    rfl
  | cons x suf ih =>
    intro pre acc h hacc
    obtain ⟨h1, h2, h3, h4⟩ := mid_facts h (by omega)
    have hpl : pre.length ≤ l.length := by rw [h]; simp
    refine Ev.step (f := fun k => impl_Sorted.l1 k acc x (acc.length : Int) l (l.length : Int) (pre.length : Int)) (fun k => ?_) ?_
    · simp only [impl_Sorted.l0]
      rw [if_pos h1, if_pos (by omega), if_pos h1, h2]
    · refine implSort_in l acc x _ _ (by omega) _ acc.length (Nat.le_refl _) ?_
      rw [h3]
      exact ih (pre ++ [x]) (insP acc x) h4 (by rw [insP_len]; simp; omega)
theorem implSort_ev (l : List Int) (hl : l.length ≤ 1048576) : Ev (fun k => impl_Sorted.f k l) (sortP l) := implSort_loop l hl l [] [] rfl rfl

theorem specSort_in (l ys : List Int) (i : Int) (h0 : 0 ≤ i) (h1 : i < (l.length : Int)) (hy : ys.length ≤ 1048576) (r : List Int) : ∀ j : Nat, j ≤ ys.length → Ev (fun k => spec_Sorted.l0 k l (putP ys (posP (rd l i) ys j) (rd l i)) (wrap64 (i + 1))) r → Ev (fun k => spec_Sorted.l1 k l ys i (j : Int)) r := by
  intro j
  have put : ∀ p : Nat, ([] ++ ys.take p ++ [rd l i]) ++ ys.drop p = putP ys p (rd l i) := fun p => by simp [putP]
  have len : ∀ p : Nat, (ys.take p).length ≤ ys.length ∧ (ys.drop p).length ≤ ys.length := fun p => by
    rw [List.length_take, List.length_drop]
    omega
  induction j with
  | zero =>
    intro _ h
    have hl := len 0
    refine Ev.step (fun k => ?_) h
    simp only [spec_Sorted.l1]
    rw [if_neg (by omega)]
    simp only [Option.bind_some]
    rw [if_pos (by omega), if_pos (by omega), Int.toNat_natCast]
    rw [if_pos (by rw [List.length_nil]; omega), if_pos h0, if_pos h1, if_pos (by simp), if_pos (by simp; omega), put 0]
    rfl
  | succ j ih =>
    intro hj h
    have hw : wrap64 (((j + 1 : Nat) : Int) - 1) = (j : Int) := by rw [wrap_ok (by omega)]; omega
    unfold posP at h
    have hl := len (j + 1)
    by_cases hc : rd ys (j : Int) > rd l i
    · rw [if_pos hc] at h
      refine Ev.step (fun k => ?_) (ih (by omega) h)
      simp only [spec_Sorted.l1]
      rw [if_pos (by omega), hw, if_pos (by omega), if_pos (by omega), if_pos h0, if_pos h1, if_pos hc]
    · rw [if_neg hc] at h
      refine Ev.step (fun k => ?_) h
      simp only [spec_Sorted.l1]
      rw [if_pos (by omega), hw, if_pos (by omega), if_pos (by omega), if_pos h0, if_pos h1, if_neg hc]
      simp only [Option.bind_some]
      rw [if_pos (by omega), if_pos (by omega), Int.toNat_natCast]
      rw [if_pos (by rw [List.length_nil]; omega), if_pos (by simp; omega), if_pos (by simp; omega), put (j + 1)]
theorem specSort_loop (l : List Int) (hl : l.length ≤ 1048576) : ∀ (suf pre acc : List Int), l = pre ++ suf → acc.length = pre.length → Ev (fun k => spec_Sorted.l0 k l acc (pre.length : Int)) (suf.foldl insP acc) := by
  intro suf
  induction suf with
  | nil =>
    intro pre acc h hacc
    obtain ⟨_, h2⟩ := end_facts h
    refine ev_end fun k => ?_
    simp only [spec_Sorted.l0]
    rw [if_neg h2]
    rfl
  | cons x suf ih =>
    intro pre acc h hacc
    obtain ⟨h1, h2, h3, h4⟩ := mid_facts h (by omega)
    have hpl : pre.length ≤ l.length := by rw [h]; simp
    refine Ev.step (f := fun k => spec_Sorted.l1 k l acc (pre.length : Int) (acc.length : Int)) (fun k => ?_) ?_
    · simp only [spec_Sorted.l0]
      rw [if_pos h1]
    · refine specSort_in l acc _ (by omega) h1 (by omega) _ acc.length (Nat.le_refl _) ?_
      rw [h3, h2]
      exact ih (pre ++ [x]) (insP acc x) h4 (by rw [insP_len]; simp; omega)
theorem specSort_ev (l : List Int) (hl : l.length ≤ 1048576) : Ev (fun k => spec_Sorted.f k l) (sortP l) := specSort_loop l hl l [] [] rfl rfl

theorem specSame_ev (a b : List Int) (ha : a.length ≤ 1048576) (hb : b.length ≤ 1048576) : Ev (fun k => spec_SameCards.f k a b) (decide (sortP a = sortP b)) := by
  unfold spec_SameCards.f
  refine ev_bind (specSort_ev a ha) ?_
  refine ev_bind (specSort_ev b hb) ?_
  refine ev_bind (specEq_ev _ _ (by rw [sortP_len]; omega)) ?_
  exact Ev.now _
theorem implSame_ev (a b : List Int) (ha : a.length ≤ 1048576) (hb : b.length ≤ 1048576) : Ev (fun k => impl_SameCards.f k a b) (decide (sortP a = sortP b)) := by
  unfold impl_SameCards.f
  refine ev_bind (implSort_ev a ha) ?_
  refine ev_bind (implSort_ev b hb) ?_
  refine ev_bind (implEq_ev _ _ (by rw [sortP_len]; omega)) ?_
  exact Ev.now _
theorem FnExactSameCards : laws_FnExactSameCards.Pure := by
  intro l0 l1 _ _ _ _ _ _
  refine Ev.rounds ?_
  by_cases hb : (l0.length : Int) > 1048576
  · exact ev_some fun k => by unfold laws_FnExactSameCards.f; rw [if_pos hb]
  by_cases hc : (l1.length : Int) > 1048576
  · exact ev_some fun k => by unfold laws_FnExactSameCards.f; rw [if_neg hb, if_pos hc]
  unfold laws_FnExactSameCards.f
  refine ev_neg hb ?_
  refine ev_neg hc ?_
  refine ev_bind (toIntS_ev l0 (by omega)) ?_
  refine ev_bind (toIntS_ev l1 (by omega)) ?_
  refine ev_bind (specSame_ev l0 l1 (by omega) (by omega)) ?_
  refine ev_bind (toIntS_ev l0 (by omega)) ?_
  refine ev_bind (toIntS_ev l1 (by omega)) ?_
  refine ev_bind (implSame_ev l0 l1 (by omega) (by omega)) ?_
  refine ev_neg (by simp) ?_
  refine ev_bind (toIntS_ev l0 (by omega)) ?_
  refine ev_bind (eqIntS_same l0 (by omega)) ?_
  refine ev_pos rfl ?_
  refine ev_bind (toIntS_ev l1 (by omega)) ?_
  refine ev_bind (eqIntS_same l1 (by omega)) ?_
  refine ev_pos rfl ?_
  exact Ev.now true

end Go.Proofs.Ytbjecehiappdeab.Pure

/-- The words' fact, under the name by which the row asks for it. -/
theorem Go.Proofs.Ytbjecehiappdeab.PrintWords.sized_ints {H : Type} {enc : Go.TypeId × Go.Value → H} {P : Go.Program} {W : Go.World} {base : Nat} {spare : Nat → Bool} {held : Bool} {t e : Go.TypeId} {k : Go.IntKind} {a : Option Go.Addr} {len cap : Nat} {d : Go.DataW H} {ps : List Go.MemPlace} {ts : List Go.TypeId} {ds : List (Go.DataW H)} {j : Nat}
    (hsz : (Go.DataW.weightsEach P ts ds).all (· ≤ Go.reachBytes) = true) (ht : ts[j]? = some t) (hd : ds[j]? = some d) (hu : P.underlying t = some (.slice e)) (he : P.underlying e = some (.int k)) (hc : P.cellsOf e = 1) {B : Nat} (hB : P.bytesOf e = B)
    (h : Go.DataW.Trod enc P W base spare held t (.slice a len cap) d ps) : len * B ≤ 140737488351232 := Go.Proofs.YtbjecehiappdeabW.PrintWords.sized_ints hsz ht hd hu he hc hB h
