/- The law FnExactShuffled returns true at every list of integers and every integer: the program's Shuffled answers as the reference's, leaves its argument and shares no memory. No condition. -/
import Derived.Test.YtbjecehiappdeacQFnExactShuffledx3
import Derived.Test.YtbjecehiappdeacWSized
namespace Go.Proofs.Ytbjecehiappdeac.Pure
open Go.RowKit Go.Proofs.Ytbjecehiappdeac.QFnExactShuffled Go.Proofs.YtbjecehiappdeacW.PrintWords Go.Proofs.YtbjecehiappdeacW.PrintLast Go.Proofs.YtbjecehiappdeacW.PrintMore
set_option linter.unusedVariables false
set_option linter.unusedSimpArgs false

/-! ### Words on rounds and on lists -/
theorem ev_bind {α β : Type} {g : Nat → Option α} {f : Nat → α → Option β} {a : α} {r : β} (h : Ev g a) (k : Ev (fun n => f n a) r) : Ev (fun n => (g n).bind (f n)) r := Ev.bind h k
theorem ev_call {α β : Type} {o : Option α} {f : Nat → α → Option β} {a : α} {r : β} (h : o = some a) (k : Ev (fun n => f n a) r) : Ev (fun n => o.bind (f n)) r := by
  subst h; exact k
theorem ev_pos {α : Type} {c : Prop} [Decidable c] {f g : Nat → Option α} {r : α} (h : c) (e : Ev f r) : Ev (fun n => if c then f n else g n) r := by
  obtain ⟨K, hK⟩ := e
  exact ⟨K, fun n hn => by show (if c then f n else g n) = some r; rw [if_pos h]; exact hK n hn⟩
theorem ev_neg {α : Type} {c : Prop} [Decidable c] {f g : Nat → Option α} {r : α} (h : ¬ c) (e : Ev g r) : Ev (fun n => if c then f n else g n) r := by
  obtain ⟨K, hK⟩ := e
  exact ⟨K, fun n hn => by show (if c then f n else g n) = some r; rw [if_neg h]; exact hK n hn⟩
theorem ev_end {α : Type} {g : Nat → Option α} {r : α} (h : ∀ k, g (k + 1) = some r) : Ev g r := Ev.step (f := fun _ => some r) h (Ev.now r)
theorem ev_eq {α : Type} {g : Nat → Option α} {r r' : α} (h : Ev g r) (e : r = r') : Ev g r' := e ▸ h
theorem ev_some {α : Type} {g : Nat → Option α} {r : α} (h : ∀ k, g k = some r) : Ev g r := ⟨0, fun k _ => h k⟩
theorem wrap_ok {n : Int} (h : -9223372036854775808 ≤ n ∧ n ≤ 9223372036854775807) : wrap64 n = n := by unfold wrap64; omega
theorem rd_mid (pre : List Int) (x : Int) (suf : List Int) : rd (pre ++ x :: suf) (pre.length : Int) = x := by simp [rd]
theorem snoc_len (pre : List Int) (x : Int) : (((pre ++ [x]).length : Nat) : Int) = (pre.length : Int) + 1 := by simp
theorem mid_facts {l pre suf : List Int} {x : Int} (h : l = pre ++ x :: suf) (hl : l.length ≤ 35184372088832) :
    (pre.length : Int) < (l.length : Int) ∧ rd l (pre.length : Int) = x ∧ wrap64 ((pre.length : Int) + 1) = (((pre ++ [x]).length : Nat) : Int) ∧ l = (pre ++ [x]) ++ suf := by
  have hlen : l.length = pre.length + (suf.length + 1) := by rw [h]; simp
  refine ⟨by omega, by rw [h]; exact rd_mid pre x suf, ?_, by rw [h]; simp⟩
  rw [snoc_len]
  exact wrap_ok (by omega)
theorem end_facts {l pre : List Int} (h : l = pre ++ []) : l = pre ∧ ¬ (pre.length : Int) < (l.length : Int) := by
  rw [List.append_nil] at h
  subst h
  exact ⟨rfl, by omega⟩
/-- The marks m, m + 1, .. -/
def marks : Int → Nat → List Int
  | _, 0 => []
  | m, n + 1 => m :: marks (m + 1) n
theorem marks_length (m : Int) (n : Nat) : (marks m n).length = n := by
  induction n generalizing m with
  | zero => rfl
  | succ n ih => simp [marks, ih]

/-! ### The law's own helpers on slices of int -/
theorem toIntS_loop (l : List Int) (hl : l.length ≤ 35184372088832) : ∀ (suf pre : List Int), l = pre ++ suf → Ev (fun k => laws_toIntS.l0 k l (pre ++ List.replicate suf.length 0) (pre.length : Int)) l := by
  intro suf
  induction suf with
  | nil =>
    intro pre h
    obtain ⟨h1, h2⟩ := end_facts h
    refine ev_end fun k => ?_
    simp only [laws_toIntS.l0]
    rw [if_neg h2]
    simp [h1]
  | cons x suf ih =>
    intro pre h
    obtain ⟨h1, h2, h3, h4⟩ := mid_facts h hl
    refine Ev.step (fun k => ?_) (ih (pre ++ [x]) h4)
    simp only [laws_toIntS.l0]
    rw [if_pos h1, if_pos (by omega), if_pos (by simp; omega), h2, h3]
    congr 1
    simp [List.replicate_succ]
theorem toIntS_ev (l : List Int) (hl : l.length ≤ 35184372088832) : Ev (fun k => laws_toIntS.f k l) l := by
  refine Ev.congr (fun k => ?_) (toIntS_loop l hl l [] rfl)
  unfold laws_toIntS.f
  rw [if_pos (by omega), if_pos (by omega)]
  rfl

theorem eqIntS_loop (a b : List Int) (hl : a.length ≤ 35184372088832) : ∀ (s1 s2 p1 p2 : List Int), a = p1 ++ s1 → b = p2 ++ s2 → p1.length = p2.length → s1.length = s2.length → Ev (fun k => laws_eqIntS.l0 k a b (p1.length : Int)) (decide (s1 = s2)) := by
  intro s1
  induction s1 with
  | nil =>
    intro s2 p1 p2 ha hb hp hs
    obtain rfl : s2 = [] := List.eq_nil_of_length_eq_zero hs.symm
    obtain ⟨_, h2⟩ := end_facts ha
    refine ev_end fun k => ?_
    simp only [laws_eqIntS.l0]
    rw [if_neg h2]
    simp
  | cons x s1 ih =>
    intro s2 p1 p2 ha hb hp hs
    cases s2 with
    | nil => simp at hs
    | cons y s2 =>
    obtain ⟨h1, h2, h3, h4⟩ := mid_facts ha hl
    have hb1 : b.length = p2.length + (s2.length + 1) := by rw [hb]; simp
    have hb2 : rd b (p1.length : Int) = y := by rw [hp, hb]; exact rd_mid p2 y s2
    have hb3 : b = (p2 ++ [y]) ++ s2 := by rw [hb]; simp
    by_cases hxy : x = y
    · refine Ev.step (fun k => ?_) (ev_eq (ih s2 (p1 ++ [x]) (p2 ++ [y]) h4 hb3 (by simp [hp]) (by simpa using hs)) (by simp [hxy]))
      simp only [laws_eqIntS.l0]
      rw [if_pos h1, if_pos (by omega), if_pos (by omega), h2, hb2, if_pos hxy, h3]
    · refine ev_end fun k => ?_
      simp only [laws_eqIntS.l0]
      rw [if_pos h1, if_pos (by omega), if_pos (by omega), h2, hb2, if_neg hxy]
      simp [hxy]
theorem eqIntS_ev (a b : List Int) (hl : a.length ≤ 35184372088832) : Ev (fun k => laws_eqIntS.f k a b) (decide (a = b)) := by
  by_cases h : a.length = b.length
  · refine Ev.congr (fun k => ?_) (eqIntS_loop a b hl a b [] [] rfl rfl rfl h)
    unfold laws_eqIntS.f
    rw [if_pos (by omega)]
    rfl
  · refine ev_some fun k => ?_
    unfold laws_eqIntS.f
    rw [if_neg (by omega)]
    have : a ≠ b := fun e => h (by rw [e])
    simp [this]
theorem eqIntS_same (a : List Int) (hl : a.length ≤ 35184372088832) : Ev (fun k => laws_eqIntS.f k a a) true := ev_eq (eqIntS_ev a a hl) (by simp)


theorem markIntS_loop : ∀ (suf pre : List Int) (m : Int), (pre ++ suf).length ≤ 35184372088832 → 0 ≤ m → m + suf.length ≤ 70368744177664 → Ev (fun k => laws_markIntS.l0 k (pre ++ suf) m (pre.length : Int)) (m + suf.length, pre ++ marks m suf.length) := by
  intro suf
  induction suf with
  | nil =>
    intro pre m hl hm hb
    refine ev_end fun k => ?_
    simp only [laws_markIntS.l0]
    rw [if_neg (by simp)]
    simp [marks]
  | cons x suf ih =>
    intro pre m hl hm hb
    have hlen : (pre ++ x :: suf).length = pre.length + (suf.length + 1) := by simp
    have hc : ((x :: suf).length : Int) = (suf.length : Int) + 1 := by simp
    refine Ev.step (fun k => ?_) (ev_eq (ih (pre ++ [m]) (m + 1) (by simp at hl ⊢; omega) (by omega) (by omega)) (by simp [marks]; omega))
    simp only [laws_markIntS.l0]
    rw [if_pos (by omega), if_pos (by omega), wrap_ok (n := m + 1) (by omega), wrap_ok (n := (pre.length : Int) + 1) (by omega), snoc_len]
    congr 1
    simp
theorem markIntS_ev (l : List Int) (hl : l.length ≤ 35184372088832) : Ev (fun k => laws_markIntS.f k l 1) (1 + (l.length : Int), marks 1 l.length) := markIntS_loop l [] 1 hl (by omega) (by omega)
theorem markIntS_from (l : List Int) (m : Int) (hl : l.length ≤ 35184372088832) (h0 : 0 ≤ m) (hm : m ≤ 35184372088832) : Ev (fun k => laws_markIntS.f k l m) (m + (l.length : Int), marks m l.length) := markIntS_loop l [] m hl h0 (by omega)

theorem heldIntS_loop (n : Nat) : ∀ (pre : List Int) (m : Int), pre.length + n ≤ 35184372088832 → 0 ≤ m → m + n ≤ 70368744177664 → Ev (fun k => laws_heldIntS.l0 k (pre ++ marks m n) m (pre.length : Int)) (m + n) := by
  induction n with
  | zero =>
    intro pre m hl hm hb
    refine ev_end fun k => ?_
    simp only [laws_heldIntS.l0]
    rw [if_neg (by simp [marks])]
    simp
  | succ n ih =>
    intro pre m hl hm hb
    refine Ev.step (fun k => ?_) (ev_eq (ih (pre ++ [m]) (m + 1) (by simp; omega) (by omega) (by omega)) (by omega))
    have e : pre ++ marks m (n + 1) = pre ++ (m) :: marks (m + 1) n := by simp [marks]
    have hlen : (pre ++ (m) :: marks (m + 1) n).length = pre.length + (n + 1) := by simp [marks_length]
    rw [e]
    simp only [laws_heldIntS.l0]
    rw [if_pos (by omega), if_pos (by omega), rd_mid, if_pos rfl, wrap_ok (n := m + 1) (by omega), wrap_ok (n := (pre.length : Int) + 1) (by omega), snoc_len]
    simp
theorem heldIntS_ev (n : Nat) (hl : n ≤ 35184372088832) : Ev (fun k => laws_heldIntS.f k (marks 1 n) 1) (1 + (n : Int)) := heldIntS_loop n [] 1 (by simpa using hl) (by omega) (by omega)


/-! ### Mod at Modulus -/
def modM (v : Int) : Int := Int.tmod (wrap64 ((Int.tmod v 2147483647) + 2147483647)) 2147483647
def hstep (d v : Int) : Int := Int.tmod (wrap64 ((wrap64 ((wrap64 (d * 1000003)) + modM v)) + 13)) 2147483647
def hashP (l : List Int) : Int := l.foldl hstep 11
theorem tmod_bounds (v m : Int) (hm : 0 < m) : -m < Int.tmod v m ∧ Int.tmod v m < m := by
  have h := Int.natAbs_tmod v m
  have h2 : v.natAbs % m.natAbs < m.natAbs := Nat.mod_lt _ (by omega)
  omega
theorem tmod_nonneg_bounds (v m : Int) (hm : 0 < m) (hv : 0 ≤ v) : 0 ≤ Int.tmod v m ∧ Int.tmod v m < m := by
  rw [Int.tmod_eq_emod_of_nonneg hv]
  exact ⟨Int.emod_nonneg v (by omega), Int.emod_lt_of_pos v hm⟩
theorem modM_range (v : Int) : 0 ≤ modM v ∧ modM v < 2147483647 := by
  unfold modM
  have h := tmod_bounds v 2147483647 (by omega)
  rw [wrap_ok (by omega)]
  exact tmod_nonneg_bounds _ _ (by omega) (by omega)
theorem hstep_plain (d v : Int) (h0 : 0 ≤ d) (h1 : d < 2147483647) : hstep d v = (d * 1000003 + modM v + 13) % 2147483647 := by
  have h := modM_range v
  unfold hstep
  rw [wrap_ok (n := d * 1000003) (by omega), wrap_ok (n := d * 1000003 + modM v) (by omega), wrap_ok (by omega), Int.tmod_eq_emod_of_nonneg (by omega)]
theorem hstep_range (d v : Int) (h0 : 0 ≤ d) (h1 : d < 2147483647) : 0 ≤ hstep d v ∧ hstep d v < 2147483647 := by
  rw [hstep_plain d v h0 h1]
  omega
theorem hash_range_from (l : List Int) : ∀ d, 0 ≤ d → d < 2147483647 → 0 ≤ l.foldl hstep d ∧ l.foldl hstep d < 2147483647 := by
  induction l with
  | nil => intro d h0 h1; exact ⟨h0, h1⟩
  | cons x l ih =>
    intro d h0 h1
    have h := hstep_range d x h0 h1
    exact ih _ h.1 h.2
theorem hash_range (l : List Int) : 0 ≤ hashP l ∧ hashP l < 2147483647 := hash_range_from l 11 (by omega) (by omega)

theorem spec_mod (v : Int) : spec_Mod.f v 2147483647 = some (modM v) := by
  unfold spec_Mod.f spec_l1In.f modM
  simp
theorem specHash_loop (l : List Int) (hl : l.length ≤ 17592186044416) : ∀ (suf pre : List Int) (d : Int), l = pre ++ suf → Ev (fun k => spec_Hash.l0 k l d (pre.length : Int)) (suf.foldl hstep d) := by
  intro suf
  induction suf with
  | nil =>
    intro pre d h
    obtain ⟨_, h2⟩ := end_facts h
    refine ev_end fun k => ?_
    simp only [spec_Hash.l0]
    rw [if_neg h2]
    rfl
  | cons x suf ih =>
    intro pre d h
    obtain ⟨h1, h2, h3, h4⟩ := mid_facts h (by omega)
    refine Ev.step (fun k => ?_) (ev_eq (ih (pre ++ [x]) (hstep d x) h4) rfl)
    simp only [spec_Hash.l0]
    rw [if_pos h1, if_pos (by omega), h2, h3, spec_mod]
    rfl
theorem specHash_ev (l : List Int) (hl : l.length ≤ 17592186044416) : Ev (fun k => spec_Hash.f k l) (hashP l) := specHash_loop l hl l [] 11 rfl

theorem impl_mod (v : Int) : impl_Mod.f v 2147483647 = some (modM v) := by
  unfold impl_Mod.f impl_InRange.f modM
  simp
theorem implHash_loop (l : List Int) (hl : l.length ≤ 17592186044416) : ∀ (suf pre : List Int) (d : Int), l = pre ++ suf → Ev (fun k => impl_Hash.l0 k d l (l.length : Int) (pre.length : Int)) (suf.foldl hstep d) := by
  intro suf
  induction suf with
  | nil =>
    intro pre d h
    obtain ⟨_, h2⟩ := end_facts h
    refine ev_end fun k => ?_
    simp only [impl_Hash.l0]
    rw [if_neg h2]
    rfl
  | cons x suf ih =>
    intro pre d h
    obtain ⟨h1, h2, h3, h4⟩ := mid_facts h (by omega)
    refine Ev.step (fun k => ?_) (ev_eq (ih (pre ++ [x]) (hstep d x) h4) rfl)
    simp only [impl_Hash.l0]
    rw [if_pos h1, if_pos (by omega), if_pos h1, h2, h3, impl_mod]
    rfl
theorem implHash_ev (l : List Int) (hl : l.length ≤ 17592186044416) : Ev (fun k => impl_Hash.f k l) (hashP l) := implHash_loop l hl l [] 11 rfl

theorem spec_modpos (v m : Int) (h0 : 0 ≤ v) (h1 : v ≤ 2147483647) (m0 : 1 ≤ m) (m1 : m ≤ 1000000000000) : spec_Mod.f v m = some (v % m) := by
  unfold spec_Mod.f spec_l1In.f
  have hz : ¬ m = 0 := by omega
  have hb := Int.emod_lt_of_pos v (show 0 < m by omega)
  have hb0 := Int.emod_nonneg v hz
  simp only [ge_iff_le, m0, m1, decide_true, if_true, Option.bind_some, hz, if_false]
  rw [Int.tmod_eq_emod_of_nonneg h0, wrap_ok (by omega), Int.tmod_eq_emod_of_nonneg (by omega), Int.add_emod_right, Int.emod_emod]

theorem impl_modpos (v m : Int) (h0 : 0 ≤ v) (h1 : v ≤ 2147483647) (m0 : 1 ≤ m) (m1 : m ≤ 1000000000000) : impl_Mod.f v m = some (v % m) := by
  unfold impl_Mod.f impl_InRange.f
  have hz : ¬ m = 0 := by omega
  have hb := Int.emod_lt_of_pos v (show 0 < m by omega)
  have hb0 := Int.emod_nonneg v hz
  simp only [ge_iff_le, m0, m1, decide_true, if_true, Option.bind_some, hz, if_false]
  rw [Int.tmod_eq_emod_of_nonneg h0, wrap_ok (by omega), Int.tmod_eq_emod_of_nonneg (by omega), Int.add_emod_right, Int.emod_emod]

theorem copy_of (l : List Int) (hl : l.length < 17592186044416) : impl_copyOf.f l = some l := by
  unfold impl_copyOf.f
  simp [hl]

/-! ### Shuffled -/
def shufF (seed : Int) : Nat → List Int → Int → List Int
  | 0, l, _ => l
  | n + 1, l, i => shufF seed n ((l.set i.toNat (rd l (hashP [seed, i] % (i + 1)))).set (hashP [seed, i] % (i + 1)).toNat (rd l i)) (i - 1)
theorem shufF_len (seed : Int) (n : Nat) : ∀ l i, (shufF seed n l i).length = l.length := by
  induction n with
  | zero => intro l i; rfl
  | succ n ih => intro l i; simp [shufF, ih]
def shufP (l : List Int) (seed : Int) : List Int := shufF seed (l.length - 1) l ((l.length : Int) - 1)
theorem shufP_len (l : List Int) (seed : Int) : (shufP l seed).length = l.length := shufF_len ..

theorem implShuf_loop (seed : Int) : ∀ (n : Nat) (l : List Int) (i : Int), l.length ≤ 17592186044000 → i < (l.length : Int) → i = n ∨ (n = 0 ∧ i = -1) → (n : Int) ≤ 1000000000 → Ev (fun k => impl_Shuffled.l0 k seed l i) (shufF seed n l i) := by
  intro n
  induction n with
  | zero =>
    intro l i hl hi hn hb
    refine ev_end fun k => ?_
    simp only [impl_Shuffled.l0]
    rw [if_neg (by omega)]
    rfl
  | succ n ih =>
    intro l i hl hi hn hb
    have hh := hash_range [seed, i]
    have hj0 := Int.emod_nonneg (hashP [seed, i]) (show i + 1 ≠ 0 by omega)
    have hj1 := Int.emod_lt_of_pos (hashP [seed, i]) (show 0 < i + 1 by omega)
    refine Ev.step (f := fun k => (impl_Hash.f k [seed, i]).bind fun t => (impl_Mod.f t (i + 1)).bind fun u => if 0 ≤ u then (if u < (l.length : Int) then impl_Shuffled.l0 k seed ((l.set i.toNat (rd l u)).set u.toNat (rd l i)) (i - 1) else none) else none) (fun k => ?_) ?_
    · simp only [impl_Shuffled.l0]
      rw [if_pos (by omega), wrap_ok (n := i + 1) (by omega), wrap_ok (n := i - 1) (by omega)]
      simp only [if_pos (show 0 ≤ i by omega), if_pos hi]
    · refine ev_bind (implHash_ev _ (by simp)) ?_
      refine ev_call (impl_modpos _ _ hh.1 (by omega) (by omega) (by omega)) ?_
      refine ev_pos hj0 ?_
      refine ev_pos (by omega) ?_
      exact ih _ (i - 1) (by simpa using hl) (by simp; omega) (by omega) (by omega)
theorem implShuf_ev (l : List Int) (seed : Int) (hl : l.length ≤ 1048576) : Ev (fun k => impl_Shuffled.f k l seed) (shufP l seed) := by
  unfold impl_Shuffled.f
  refine ev_call (copy_of l (by omega)) ?_
  rw [wrap_ok (by omega)]
  exact implShuf_loop seed _ l _ (by omega) (by omega) (by omega) (by omega)

theorem specShuf_loop (seed : Int) : ∀ (n : Nat) (l : List Int) (i : Int), l.length ≤ 17592186044000 → i < (l.length : Int) → i = n ∨ (n = 0 ∧ i = -1) → (n : Int) ≤ 1000000000 → Ev (fun k => spec_Shuffled.l0 k seed l i) (shufF seed n l i) := by
  intro n
  induction n with
  | zero =>
    intro l i hl hi hn hb
    refine ev_end fun k => ?_
    simp only [spec_Shuffled.l0]
    rw [if_neg (by omega)]
    rfl
  | succ n ih =>
    intro l i hl hi hn hb
    have hh := hash_range [seed, i]
    have hj0 := Int.emod_nonneg (hashP [seed, i]) (show i + 1 ≠ 0 by omega)
    have hj1 := Int.emod_lt_of_pos (hashP [seed, i]) (show 0 < i + 1 by omega)
    refine Ev.step (f := fun k => (spec_Hash.f k [seed, i]).bind fun t => (spec_Mod.f t (i + 1)).bind fun u => if 0 ≤ u then (if u < (l.length : Int) then spec_Shuffled.l0 k seed ((l.set i.toNat (rd l u)).set u.toNat (rd l i)) (i - 1) else none) else none) (fun k => ?_) ?_
    · simp only [spec_Shuffled.l0]
      rw [if_pos (by omega), wrap_ok (n := i + 1) (by omega), wrap_ok (n := i - 1) (by omega)]
      simp only [if_pos (show 0 ≤ i by omega), if_pos hi]
    · refine ev_bind (specHash_ev _ (by simp)) ?_
      refine ev_call (spec_modpos _ _ hh.1 (by omega) (by omega) (by omega)) ?_
      refine ev_pos hj0 ?_
      refine ev_pos (by omega) ?_
      exact ih _ (i - 1) (by simpa using hl) (by simp; omega) (by omega) (by omega)
theorem specShuf_ev (l : List Int) (seed : Int) (hl : l.length ≤ 1048576) : Ev (fun k => spec_Shuffled.f k l seed) (shufP l seed) := by
  unfold spec_Shuffled.f
  refine ev_call rfl ?_
  refine ev_pos (by simp; omega) ?_
  refine ev_call rfl ?_
  rw [List.nil_append, wrap_ok (by omega)]
  exact specShuf_loop seed _ l _ (by omega) (by omega) (by omega) (by omega)
theorem FnExactShuffled : laws_FnExactShuffled.Pure := by
  intro l0 a1 _ _ _ _
  refine Ev.rounds ?_
  by_cases hb : (l0.length : Int) > 1048576
  · exact ev_some fun k => by unfold laws_FnExactShuffled.f; rw [if_pos hb]
  have hl : l0.length ≤ 1048576 := by omega
  have hw := shufP_len l0 a1
  unfold laws_FnExactShuffled.f
  refine ev_neg hb ?_
  refine ev_bind (toIntS_ev l0 (by omega)) ?_
  refine ev_bind (specShuf_ev l0 a1 hl) ?_
  refine ev_bind (toIntS_ev l0 (by omega)) ?_
  refine ev_bind (implShuf_ev l0 a1 hl) ?_
  refine ev_bind (eqIntS_same _ (by omega)) ?_
  refine ev_pos rfl ?_
  refine ev_bind (toIntS_ev l0 (by omega)) ?_
  refine ev_bind (eqIntS_same l0 (by omega)) ?_
  refine ev_pos rfl ?_
  refine ev_bind (markIntS_ev l0 (by omega)) ?_
  refine ev_neg (by first | omega | (simp only []; omega)) ?_
  refine ev_bind (eqIntS_same _ (by omega)) ?_
  refine Ev.step (fun k => laws_FnExactShuffled.j0.eq_2 _ _ _ _ _ k) ?_
  refine ev_neg (by simp) ?_
  refine ev_bind (markIntS_ev _ (by omega)) ?_
  refine ev_bind (heldIntS_ev _ (by omega)) ?_
  refine ev_neg (by first | omega | (simp only []; omega)) ?_
  refine ev_pos rfl ?_
  refine ev_bind (toIntS_ev l0 (by omega)) ?_
  refine ev_bind (implShuf_ev l0 a1 hl) ?_
  refine ev_bind (eqIntS_same _ (by omega)) ?_
  refine ev_pos rfl ?_
  refine ev_bind (heldIntS_ev _ (by omega)) ?_
  refine ev_neg (by first | omega | (simp only []; omega)) ?_
  refine ev_pos rfl ?_
  exact Ev.now true

end Go.Proofs.Ytbjecehiappdeac.Pure

/-- The words' fact, under the name by which the row asks for it. -/
theorem Go.Proofs.Ytbjecehiappdeac.PrintWords.sized_ints {H : Type} {enc : Go.TypeId × Go.Value → H} {P : Go.Program} {W : Go.World} {base : Nat} {spare : Nat → Bool} {held : Bool} {t e : Go.TypeId} {k : Go.IntKind} {a : Option Go.Addr} {len cap : Nat} {d : Go.DataW H} {ps : List Go.MemPlace} {ts : List Go.TypeId} {ds : List (Go.DataW H)} {j : Nat}
    (hsz : (Go.DataW.weightsEach P ts ds).all (· ≤ Go.reachBytes) = true) (ht : ts[j]? = some t) (hd : ds[j]? = some d) (hu : P.underlying t = some (.slice e)) (he : P.underlying e = some (.int k)) (hc : P.cellsOf e = 1) {B : Nat} (hB : P.bytesOf e = B)
    (h : Go.DataW.Trod enc P W base spare held t (.slice a len cap) d ps) : len * B ≤ 140737488351232 := Go.Proofs.YtbjecehiappdeacW.PrintWords.sized_ints hsz ht hd hu he hc hB h
