/- The law FnExactAppendBytes returns true at every two lists of bytes: the program's AppendBytes answers as the reference's, leaves its arguments and shares no memory. No condition. -/
import Derived.Test.YtbjecehiappdeabPFnExactAppendBytesx2
import Derived.Test.YtbjecehiappdeabWSized
namespace Go.Proofs.Ytbjecehiappdeab.Pure
open Go.RowKit Go.Proofs.Ytbjecehiappdeab.PFnExactAppendBytes Go.Proofs.YtbjecehiappdeabW.PrintWords Go.Proofs.YtbjecehiappdeabW.PrintLast Go.Proofs.YtbjecehiappdeabW.PrintMore

/-! ### Words on rounds and on lists -/
theorem ev_bind {α β : Type} {g : Nat → Option α} {f : Nat → α → Option β} {a : α} {r : β} (h : Ev g a) (k : Ev (fun n => f n a) r) : Ev (fun n => (g n).bind (f n)) r := Ev.bind h k
theorem ev_call {α β : Type} {o : Option α} {f : Nat → α → Option β} {a : α} {r : β} (h : o = some a) (k : Ev (fun n => f n a) r) : Ev (fun n => o.bind (f n)) r := by
  subst h; exact k
theorem ev_pos {α : Type} {c : Prop} [Decidable c] {f g : Nat → Option α} {r : α} (h : c) (e : Ev f r) : Ev (fun n => if c then f n else g n) r := by
  obtain ⟨K, hK⟩ := e
  exact ⟨K, fun n hn => by show (if c then f n else g n) = some r; rw [if_pos h]; exact hK n hn⟩
theorem ev_neg {α : Type} {c : Prop} [Decidable c] {f g : Nat → Option α} {r : α} (h : ¬ c) (e : Ev g r) : Ev (fun n => if c then f n else g n) r := by
  obtain ⟨K, hK⟩ := e
  exact ⟨K, fun n hn => by show (if c then f n else g n) = some r; rw [if_neg h]; exact hK n hn⟩
theorem ev_end {α : Type} {g : Nat → Option α} {r : α} (h : ∀ k, g (k + 1) = some r) : Ev g r := Ev.step (f := fun _ => some r) h (Ev.now r)
theorem ev_eq {α : Type} {g : Nat → Option α} {r r' : α} (h : Ev g r) (e : r = r') : Ev g r' := e ▸ h
theorem ev_some {α : Type} {g : Nat → Option α} {r : α} (h : ∀ k, g k = some r) : Ev g r := ⟨0, fun k _ => h k⟩
theorem wrap_ok {n : Int} (h : -9223372036854775808 ≤ n ∧ n ≤ 9223372036854775807) : wrap64 n = n := by unfold wrap64; omega
theorem rd_mid (pre : List Int) (x : Int) (suf : List Int) : rd (pre ++ x :: suf) (pre.length : Int) = x := by simp [rd]
theorem snoc_len (pre : List Int) (x : Int) : (((pre ++ [x]).length : Nat) : Int) = (pre.length : Int) + 1 := by simp
theorem mid_facts {l pre suf : List Int} {x : Int} (h : l = pre ++ x :: suf) (hl : l.length ≤ 35184372088832) :
    (pre.length : Int) < (l.length : Int) ∧ rd l (pre.length : Int) = x ∧ wrap64 ((pre.length : Int) + 1) = (((pre ++ [x]).length : Nat) : Int) ∧ l = (pre ++ [x]) ++ suf := by
  have hlen : l.length = pre.length + (suf.length + 1) := by rw [h]; simp
  refine ⟨by omega, by rw [h]; exact rd_mid pre x suf, ?_, by rw [h]; simp⟩
  rw [snoc_len]
  exact wrap_ok (by omega)
theorem end_facts {l pre : List Int} (h : l = pre ++ []) : l = pre ∧ ¬ (pre.length : Int) < (l.length : Int) := by
  rw [List.append_nil] at h
  subst h
  exact ⟨rfl, by omega⟩
/-- The marks m, m + 1, .. -/
def marks : Int → Nat → List Int
  | _, 0 => []
  | m, n + 1 => m :: marks (m + 1) n
theorem marks_length (m : Int) (n : Nat) : (marks m n).length = n := by
  induction n generalizing m with
  | zero => rfl
  | succ n ih => simp [marks, ih]

/-! ### The law's own helpers on slices of byte -/
theorem toByteS_loop (l : List Int) (hl : l.length ≤ 35184372088832) : ∀ (suf pre : List Int), l = pre ++ suf → Ev (fun k => laws_toByteS.l0 k l (pre ++ List.replicate suf.length 0) (pre.length : Int)) l := by
  intro suf
  induction suf with
  | nil =>
    intro pre h
    obtain ⟨h1, h2⟩ := end_facts h
    refine ev_end fun k => ?_
    simp only [laws_toByteS.l0]
    rw [if_neg h2]
    simp [h1]
  | cons x suf ih =>
    intro pre h
    obtain ⟨h1, h2, h3, h4⟩ := mid_facts h hl
    refine Ev.step (fun k => ?_) (ih (pre ++ [x]) h4)
    simp only [laws_toByteS.l0]
    rw [if_pos h1, if_pos (by omega), if_pos (by simp; omega), h2, h3]
    congr 1
    simp [List.replicate_succ]
theorem toByteS_ev (l : List Int) (hl : l.length ≤ 35184372088832) : Ev (fun k => laws_toByteS.f k l) l := by
  refine Ev.congr (fun k => ?_) (toByteS_loop l hl l [] rfl)
  unfold laws_toByteS.f
  rw [if_pos (by omega), if_pos (by omega)]
  rfl

theorem eqByteS_loop (a b : List Int) (hl : a.length ≤ 35184372088832) : ∀ (s1 s2 p1 p2 : List Int), a = p1 ++ s1 → b = p2 ++ s2 → p1.length = p2.length → s1.length = s2.length → Ev (fun k => laws_eqByteS.l0 k a b (p1.length : Int)) (decide (s1 = s2)) := by
  intro s1
  induction s1 with
  | nil =>
    intro s2 p1 p2 ha hb hp hs
    obtain rfl : s2 = [] := List.eq_nil_of_length_eq_zero hs.symm
    obtain ⟨_, h2⟩ := end_facts ha
    refine ev_end fun k => ?_
    simp only [laws_eqByteS.l0]
    rw [if_neg h2]
    simp
  | cons x s1 ih =>
    intro s2 p1 p2 ha hb hp hs
    cases s2 with
    | nil => simp at hs
    | cons y s2 =>
    obtain ⟨h1, h2, h3, h4⟩ := mid_facts ha hl
    have hb1 : b.length = p2.length + (s2.length + 1) := by rw [hb]; simp
    have hb2 : rd b (p1.length : Int) = y := by rw [hp, hb]; exact rd_mid p2 y s2
    have hb3 : b = (p2 ++ [y]) ++ s2 := by rw [hb]; simp
    by_cases hxy : x = y
    · refine Ev.step (fun k => ?_) (ev_eq (ih s2 (p1 ++ [x]) (p2 ++ [y]) h4 hb3 (by simp [hp]) (by simpa using hs)) (by simp [hxy]))
      simp only [laws_eqByteS.l0]
      rw [if_pos h1, if_pos (by omega), if_pos (by omega), h2, hb2, if_pos hxy, h3]
    · refine ev_end fun k => ?_
      simp only [laws_eqByteS.l0]
      rw [if_pos h1, if_pos (by omega), if_pos (by omega), h2, hb2, if_neg hxy]
      simp [hxy]
theorem eqByteS_ev (a b : List Int) (hl : a.length ≤ 35184372088832) : Ev (fun k => laws_eqByteS.f k a b) (decide (a = b)) := by
  by_cases h : a.length = b.length
  · refine Ev.congr (fun k => ?_) (eqByteS_loop a b hl a b [] [] rfl rfl rfl h)
    unfold laws_eqByteS.f
    rw [if_pos (by omega)]
    rfl
  · refine ev_some fun k => ?_
    unfold laws_eqByteS.f
    rw [if_neg (by omega)]
    have : a ≠ b := fun e => h (by rw [e])
    simp [this]
theorem eqByteS_same (a : List Int) (hl : a.length ≤ 35184372088832) : Ev (fun k => laws_eqByteS.f k a a) true := ev_eq (eqByteS_ev a a hl) (by simp)


/-- The marks m, m + 1, .. as bytes. -/
def marksB : Int → Nat → List Int
  | _, 0 => []
  | m, n + 1 => (m % 256) :: marksB (m + 1) n
theorem marksB_length (m : Int) (n : Nat) : (marksB m n).length = n := by
  induction n generalizing m with
  | zero => rfl
  | succ n ih => simp [marksB, ih]
theorem markByteS_loop : ∀ (suf pre : List Int) (m : Int), (pre ++ suf).length ≤ 35184372088832 → 0 ≤ m → m + suf.length ≤ 70368744177664 → Ev (fun k => laws_markByteS.l0 k (pre ++ suf) m (pre.length : Int)) (m + suf.length, pre ++ marksB m suf.length) := by
  intro suf
  induction suf with
  | nil =>
    intro pre m hl hm hb
    refine ev_end fun k => ?_
    simp only [laws_markByteS.l0]
    rw [if_neg (by simp)]
    simp [marksB]
  | cons x suf ih =>
    intro pre m hl hm hb
    have hlen : (pre ++ x :: suf).length = pre.length + (suf.length + 1) := by simp
    have hc : ((x :: suf).length : Int) = (suf.length : Int) + 1 := by simp
    refine Ev.step (fun k => ?_) (ev_eq (ih (pre ++ [m % 256]) (m + 1) (by simp at hl ⊢; omega) (by omega) (by omega)) (by simp [marksB]; omega))
    simp only [laws_markByteS.l0]
    rw [if_pos (by omega), if_pos (by omega), wrap_ok (n := m + 1) (by omega), wrap_ok (n := (pre.length : Int) + 1) (by omega), snoc_len]
    congr 1
    simp
theorem markByteS_ev (l : List Int) (hl : l.length ≤ 35184372088832) : Ev (fun k => laws_markByteS.f k l 1) (1 + (l.length : Int), marksB 1 l.length) := markByteS_loop l [] 1 hl (by omega) (by omega)
theorem markByteS_from (l : List Int) (m : Int) (hl : l.length ≤ 35184372088832) (h0 : 0 ≤ m) (hm : m ≤ 35184372088832) : Ev (fun k => laws_markByteS.f k l m) (m + (l.length : Int), marksB m l.length) := markByteS_loop l [] m hl h0 (by omega)

theorem heldByteS_loop (n : Nat) : ∀ (pre : List Int) (m : Int), pre.length + n ≤ 35184372088832 → 0 ≤ m → m + n ≤ 70368744177664 → Ev (fun k => laws_heldByteS.l0 k (pre ++ marksB m n) m (pre.length : Int)) (m + n) := by
  induction n with
  | zero =>
    intro pre m hl hm hb
    refine ev_end fun k => ?_
    simp only [laws_heldByteS.l0]
    rw [if_neg (by simp [marksB])]
    simp
  | succ n ih =>
    intro pre m hl hm hb
    refine Ev.step (fun k => ?_) (ev_eq (ih (pre ++ [m % 256]) (m + 1) (by simp; omega) (by omega) (by omega)) (by omega))
    have e : pre ++ marksB m (n + 1) = pre ++ (m % 256) :: marksB (m + 1) n := by simp [marksB]
    have hlen : (pre ++ (m % 256) :: marksB (m + 1) n).length = pre.length + (n + 1) := by simp [marksB_length]
    rw [e]
    simp only [laws_heldByteS.l0]
    rw [if_pos (by omega), if_pos (by omega), rd_mid, if_pos rfl, wrap_ok (n := m + 1) (by omega), wrap_ok (n := (pre.length : Int) + 1) (by omega), snoc_len]
    simp
theorem heldByteS_ev (n : Nat) (hl : n ≤ 35184372088832) : Ev (fun k => laws_heldByteS.f k (marksB 1 n) 1) (1 + (n : Int)) := heldByteS_loop n [] 1 (by simpa using hl) (by omega) (by omega)


theorem wraps_i64 (n : Int) (h0 : 0 ≤ n) (h1 : n < 2 ^ 63) : IntKind.i64.wrap n = n := by rw [IntKind.wrap_i64]; omega
theorem and127 (x : Int) (h0 : 0 ≤ x) (h1 : x < 9223372036854775808) : Go.bits .and .i64 x 127 = x % 128 := bits_mask .i64 63 (by decide) wraps_i64 7 (by decide) x h0 h1
theorem or_turn (x y : Int) (hx : 0 ≤ x) (hx1 : x < 9223372036854775808) (hy : 0 ≤ y) (hy1 : y < 9223372036854775808) : Go.bits .or .i64 x y = Go.bits .or .i64 y x := by
  obtain ⟨a, rfl⟩ := Int.eq_ofNat_of_zero_le hx
  obtain ⟨b, rfl⟩ := Int.eq_ofNat_of_zero_le hy
  rw [(bits_nat .i64 63 (by decide) wraps_i64 a b (by omega) (by omega)).2, (bits_nat .i64 63 (by decide) wraps_i64 b a (by omega) (by omega)).2, Nat.or_comm]
theorem or_low (x y : Int) (i : Nat) (hx : 0 ≤ x) (hx1 : x < 9223372036854775808) (hm : x % 2 ^ i = 0) (hy : 0 ≤ y) (hy1 : y < 2 ^ i) (hy2 : y < 9223372036854775808) : Go.bits .or .i64 y x = y + x := by
  rw [or_turn y x hy hy2 hx hx1, bits_join .i64 63 (by decide) wraps_i64 i x y hx hm (by omega) hy hy1 (by omega)]
  omega
theorem or128 (y : Int) (h0 : 0 ≤ y) (h1 : y < 128) : Go.bits .or .i64 y 128 = y + 128 := or_low 128 y 7 (by omega) (by omega) (by decide) h0 (by omega) (by omega)

/-! ### A varint -/
def uvF : Nat → Int → List Int
  | 0, _ => []
  | f + 1, n => if n ≥ 128 then (n % 128 + 128) :: uvF f (n / 128) else [n]
theorem uvF_len (f : Nat) : ∀ n, (uvF f n).length ≤ f := by
  induction f with
  | zero => intro n; simp [uvF]
  | succ f ih =>
    intro n
    have := ih (n / 128)
    unfold uvF
    split
    · simp; omega
    · simp
def uvP (n : Int) : List Int := if 0 ≤ n ∧ n ≤ 1000000000000 then uvF 6 n else []
theorem uvP_len (n : Int) : (uvP n).length ≤ 6 := by
  unfold uvP
  split
  · exact uvF_len 6 n
  · simp

theorem specPut_loop : ∀ (f : Nat) (n : Int) (acc : List Int), 0 ≤ n → n < 128 ^ (f + 1) → n ≤ 1000000000000 → acc.length + f ≤ 70368744177664 → Ev (fun k => spec_AppendUvarint.l0 k n acc) (acc ++ uvF (f + 1) n) := by
  intro f
  induction f with
  | zero =>
    intro n acc h0 h1 h2 h3
    refine ev_end fun k => ?_
    simp only [spec_AppendUvarint.l0]
    rw [if_neg (by omega), if_pos (by omega), Int.emod_eq_of_lt h0 (by omega)]
    have h4 : ¬ n ≥ 128 := by omega
    simp [uvF, h4]
  | succ f ih =>
    intro n acc h0 h1 h2 h3
    by_cases hn : n > 127
    · have hn' : n ≥ 128 := by omega
      have hd : n / 128 < 128 ^ (f + 1) := by
        have e : (128 : Int) ^ (f + 1 + 1) = 128 ^ (f + 1) * 128 := Int.pow_succ ..
        rw [e] at h1
        omega
      refine Ev.step (fun k => ?_) (ev_eq (ih (n / 128) (acc ++ [n % 128 + 128]) (by omega) hd (by omega) (by simp; omega)) (by simp [uvF, hn']))
      simp only [spec_AppendUvarint.l0]
      rw [if_pos hn, if_pos (by omega), and127 n h0 (by omega), or128 _ (by omega) (by omega), Int.emod_eq_of_lt (by omega) (by omega)]
    · refine ev_end fun k => ?_
      have h4 : ¬ n ≥ 128 := by omega
      simp only [spec_AppendUvarint.l0]
      rw [if_neg hn, if_pos (by omega), Int.emod_eq_of_lt h0 (by omega)]
      simp [uvF, h4]
theorem specPut_ev (l : List Int) (n : Int) (hl : l.length ≤ 35184372088832) : Ev (fun k => spec_AppendUvarint.f k l n) (l ++ uvP n) := by
  unfold spec_AppendUvarint.f
  refine ev_call rfl ?_
  refine ev_pos (by simp; omega) ?_
  refine ev_call rfl ?_
  rw [List.nil_append]
  unfold spec_l1In.f uvP
  by_cases h1 : 0 ≤ n
  · by_cases h2 : n ≤ 1000000000000
    · refine ev_call (if_pos h1) ?_
      refine ev_pos (by simp [h2]) ?_
      rw [if_pos ⟨h1, h2⟩]
      exact specPut_loop 5 n l h1 (by omega) h2 (by omega)
    · refine ev_call (if_pos h1) ?_
      refine ev_neg (by simp [h2]) ?_
      rw [if_neg (fun h => h2 h.2), List.append_nil]
      exact Ev.now _
  · refine ev_call (if_neg h1) ?_
    refine ev_neg (by simp) ?_
    rw [if_neg (fun h => h1 h.1), List.append_nil]
    exact Ev.now _

theorem implPut_loop : ∀ (f : Nat) (n : Int) (acc : List Int), 0 ≤ n → n < 128 ^ (f + 1) → n ≤ 1000000000000 → acc.length + f ≤ 70368744177664 → Ev (fun k => impl_AppendUvarint.l0 k n acc) (acc ++ uvF (f + 1) n) := by
  intro f
  induction f with
  | zero =>
    intro n acc h0 h1 h2 h3
    refine ev_end fun k => ?_
    simp only [impl_AppendUvarint.l0]
    rw [if_neg (by omega), if_pos (by omega), Int.emod_eq_of_lt h0 (by omega)]
    have h4 : ¬ n ≥ 128 := by omega
    simp [uvF, h4]
  | succ f ih =>
    intro n acc h0 h1 h2 h3
    by_cases hn : n ≥ 128
    · have hd : n / 128 < 128 ^ (f + 1) := by
        have e : (128 : Int) ^ (f + 1 + 1) = 128 ^ (f + 1) * 128 := Int.pow_succ ..
        rw [e] at h1
        omega
      refine Ev.step (fun k => ?_) (ev_eq (ih (n / 128) (acc ++ [n % 128 + 128]) (by omega) hd (by omega) (by simp; omega)) (by simp [uvF, hn]))
      simp only [impl_AppendUvarint.l0]
      rw [if_pos hn, if_pos (by omega), Int.tdiv_eq_ediv_of_nonneg h0, Int.tmod_eq_emod_of_nonneg h0, wrap_ok (n := n / 128) (by omega), wrap_ok (n := n % 128 + 128) (by omega), Int.emod_eq_of_lt (a := n % 128 + 128) (by omega) (by omega)]
    · refine ev_end fun k => ?_
      simp only [impl_AppendUvarint.l0]
      rw [if_neg hn, if_pos (by omega), Int.emod_eq_of_lt h0 (by omega)]
      simp [uvF, hn]
theorem implPut_ev (l : List Int) (n : Int) (hl : l.length ≤ 35184372088832) : Ev (fun k => impl_AppendUvarint.f k l n) (l ++ uvP n) := by
  unfold impl_AppendUvarint.f
  refine ev_call rfl ?_
  refine ev_pos (by simp; omega) ?_
  refine ev_call rfl ?_
  rw [List.nil_append]
  unfold impl_InRange.f uvP
  by_cases h1 : 0 ≤ n
  · by_cases h2 : n ≤ 1000000000000
    · refine ev_call (if_pos h1) ?_
      refine ev_pos (by simp [h2]) ?_
      rw [if_pos ⟨h1, h2⟩]
      exact implPut_loop 5 n l h1 (by omega) h2 (by omega)
    · refine ev_call (if_pos h1) ?_
      refine ev_neg (by simp [h2]) ?_
      rw [if_neg (fun h => h2 h.2), List.append_nil]
      exact Ev.now _
  · refine ev_call (if_neg h1) ?_
    refine ev_neg (by simp) ?_
    rw [if_neg (fun h => h1 h.1), List.append_nil]
    exact Ev.now _

theorem specAB_ev (l s : List Int) (hl : l.length ≤ 35184372088832) (hs : s.length ≤ 35184372088832) : Ev (fun k => spec_AppendBytes.f k l s) (l ++ uvP (s.length : Int) ++ s) := by
  have hu := uvP_len (s.length : Int)
  unfold spec_AppendBytes.f
  refine ev_bind (specPut_ev l _ hl) ?_
  refine ev_pos (by simp; omega) ?_
  exact Ev.now _

theorem implAB_ev (l s : List Int) (hl : l.length ≤ 35184372088832) (hs : s.length ≤ 35184372088832) : Ev (fun k => impl_AppendBytes.f k l s) (l ++ uvP (s.length : Int) ++ s) := by
  have hu := uvP_len (s.length : Int)
  unfold impl_AppendBytes.f
  refine ev_bind (implPut_ev l _ hl) ?_
  refine ev_pos (by simp; omega) ?_
  exact Ev.now _

theorem FnExactAppendBytes : laws_FnExactAppendBytes.Pure := by
  intro l0 l1 _ _ _ _ _ _
  refine Ev.rounds ?_
  by_cases hb : (l0.length : Int) > 1048576
  · exact ev_some fun k => by unfold laws_FnExactAppendBytes.f; rw [if_pos hb]
  by_cases hc : (l1.length : Int) > 1048576
  · exact ev_some fun k => by unfold laws_FnExactAppendBytes.f; rw [if_neg hb, if_pos hc]
  have hw : (l0 ++ uvP (l1.length : Int) ++ l1).length ≤ l0.length + 6 + l1.length := by have := uvP_len (l1.length : Int); simp; omega
  unfold laws_FnExactAppendBytes.f
  refine ev_neg hb ?_
  refine ev_neg hc ?_
  refine ev_bind (toByteS_ev l0 (by omega)) ?_
  refine ev_bind (toByteS_ev l1 (by omega)) ?_
  refine ev_bind (specAB_ev l0 l1 (by omega) (by omega)) ?_
  refine ev_bind (toByteS_ev l0 (by omega)) ?_
  refine ev_bind (toByteS_ev l1 (by omega)) ?_
  refine ev_bind (implAB_ev l0 l1 (by omega) (by omega)) ?_
  refine ev_bind (eqByteS_same _ (by omega)) ?_
  refine ev_pos rfl ?_
  refine ev_bind (toByteS_ev l0 (by omega)) ?_
  refine ev_bind (eqByteS_same l0 (by omega)) ?_
  refine ev_pos rfl ?_
  refine ev_bind (toByteS_ev l1 (by omega)) ?_
  refine ev_bind (eqByteS_same l1 (by omega)) ?_
  refine ev_pos rfl ?_
  refine ev_bind (markByteS_ev l0 (by omega)) ?_
  refine ev_bind (markByteS_from l1 _ (by omega) (by first | omega | (simp only []; omega)) (by first | omega | (simp only []; omega))) ?_
  refine ev_neg (by first | omega | (simp only []; omega)) ?_
  refine ev_bind (eqByteS_same _ (by omega)) ?_
  refine Ev.step (fun k => laws_FnExactAppendBytes.j0.eq_2 _ _ _ _ _ k) ?_
  refine ev_neg (by simp) ?_
  refine ev_bind (markByteS_ev _ (by omega)) ?_
  refine ev_bind (heldByteS_ev _ (by omega)) ?_
  refine ev_neg (by first | omega | (simp only []; omega)) ?_
  refine ev_pos rfl ?_
  refine ev_bind (toByteS_ev l0 (by omega)) ?_
  refine ev_bind (toByteS_ev l1 (by omega)) ?_
  refine ev_bind (implAB_ev l0 l1 (by omega) (by omega)) ?_
  refine ev_bind (eqByteS_same _ (by omega)) ?_
  refine ev_pos rfl ?_
  refine ev_bind (heldByteS_ev _ (by omega)) ?_
  refine ev_neg (by first | omega | (simp only []; omega)) ?_
  refine ev_pos rfl ?_
  exact Ev.now true

end Go.Proofs.Ytbjecehiappdeab.Pure

/-- The words' fact, under the name by which the row asks for it. -/
theorem Go.Proofs.Ytbjecehiappdeab.PrintWords.sized_ints {H : Type} {enc : Go.TypeId × Go.Value → H} {P : Go.Program} {W : Go.World} {base : Nat} {spare : Nat → Bool} {held : Bool} {t e : Go.TypeId} {k : Go.IntKind} {a : Option Go.Addr} {len cap : Nat} {d : Go.DataW H} {ps : List Go.MemPlace} {ts : List Go.TypeId} {ds : List (Go.DataW H)} {j : Nat}
    (hsz : (Go.DataW.weightsEach P ts ds).all (· ≤ Go.reachBytes) = true) (ht : ts[j]? = some t) (hd : ds[j]? = some d) (hu : P.underlying t = some (.slice e)) (he : P.underlying e = some (.int k)) (hc : P.cellsOf e = 1) {B : Nat} (hB : P.bytesOf e = B)
    (h : Go.DataW.Trod enc P W base spare held t (.slice a len cap) d ps) : len * B ≤ 140737488351232 := Go.Proofs.YtbjecehiappdeabW.PrintWords.sized_ints hsz ht hd hu he hc hB h
