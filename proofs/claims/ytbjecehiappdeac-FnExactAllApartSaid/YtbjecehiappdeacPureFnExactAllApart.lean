/- The law FnExactAllApart returns true at every list of lists of integers: the program's AllApart answers as the reference's and leaves its argument. No condition. -/
import Derived.Test.YtbjecehiappdeacQFnExactAllApartx2
namespace Go.Proofs.Ytbjecehiappdeac.Pure
open Go.RowKit Go.Proofs.Ytbjecehiappdeac.QFnExactAllApart Go.Proofs.YtbjecehiappdeacW.PrintWords Go.Proofs.YtbjecehiappdeacW.PrintLast Go.Proofs.YtbjecehiappdeacW.PrintMore
set_option linter.unusedVariables false
set_option linter.unusedSimpArgs false

/-! ### Words on rounds and on lists -/
theorem ev_bind {α β : Type} {g : Nat → Option α} {f : Nat → α → Option β} {a : α} {r : β} (h : Ev g a) (k : Ev (fun n => f n a) r) : Ev (fun n => (g n).bind (f n)) r := Ev.bind h k
theorem ev_call {α β : Type} {o : Option α} {f : Nat → α → Option β} {a : α} {r : β} (h : o = some a) (k : Ev (fun n => f n a) r) : Ev (fun n => o.bind (f n)) r := by
  subst h; exact k
theorem ev_pos {α : Type} {c : Prop} [Decidable c] {f g : Nat → Option α} {r : α} (h : c) (e : Ev f r) : Ev (fun n => if c then f n else g n) r := by
  obtain ⟨K, hK⟩ := e
  exact ⟨K, fun n hn => by show (if c then f n else g n) = some r; rw [if_pos h]; exact hK n hn⟩
theorem ev_neg {α : Type} {c : Prop} [Decidable c] {f g : Nat → Option α} {r : α} (h : ¬ c) (e : Ev g r) : Ev (fun n => if c then f n else g n) r := by
  obtain ⟨K, hK⟩ := e
  exact ⟨K, fun n hn => by show (if c then f n else g n) = some r; rw [if_neg h]; exact hK n hn⟩
theorem ev_end {α : Type} {g : Nat → Option α} {r : α} (h : ∀ k, g (k + 1) = some r) : Ev g r := Ev.step (f := fun _ => some r) h (Ev.now r)
theorem ev_eq {α : Type} {g : Nat → Option α} {r r' : α} (h : Ev g r) (e : r = r') : Ev g r' := e ▸ h
theorem ev_some {α : Type} {g : Nat → Option α} {r : α} (h : ∀ k, g k = some r) : Ev g r := ⟨0, fun k _ => h k⟩
theorem wrap_ok {n : Int} (h : -9223372036854775808 ≤ n ∧ n ≤ 9223372036854775807) : wrap64 n = n := by unfold wrap64; omega
theorem rd_mid (pre : List Int) (x : Int) (suf : List Int) : rd (pre ++ x :: suf) (pre.length : Int) = x := by simp [rd]
theorem snoc_len (pre : List Int) (x : Int) : (((pre ++ [x]).length : Nat) : Int) = (pre.length : Int) + 1 := by simp
theorem mid_facts {l pre suf : List Int} {x : Int} (h : l = pre ++ x :: suf) (hl : l.length ≤ 35184372088832) :
    (pre.length : Int) < (l.length : Int) ∧ rd l (pre.length : Int) = x ∧ wrap64 ((pre.length : Int) + 1) = (((pre ++ [x]).length : Nat) : Int) ∧ l = (pre ++ [x]) ++ suf := by
  have hlen : l.length = pre.length + (suf.length + 1) := by rw [h]; simp
  refine ⟨by omega, by rw [h]; exact rd_mid pre x suf, ?_, by rw [h]; simp⟩
  rw [snoc_len]
  exact wrap_ok (by omega)
theorem end_facts {l pre : List Int} (h : l = pre ++ []) : l = pre ∧ ¬ (pre.length : Int) < (l.length : Int) := by
  rw [List.append_nil] at h
  subst h
  exact ⟨rfl, by omega⟩
/-- The marks m, m + 1, .. -/
def marks : Int → Nat → List Int
  | _, 0 => []
  | m, n + 1 => m :: marks (m + 1) n
theorem marks_length (m : Int) (n : Nat) : (marks m n).length = n := by
  induction n generalizing m with
  | zero => rfl
  | succ n ih => simp [marks, ih]

/-! ### The law's own helpers on slices of int -/
theorem toIntS_loop (l : List Int) (hl : l.length ≤ 35184372088832) : ∀ (suf pre : List Int), l = pre ++ suf → Ev (fun k => laws_toIntS.l0 k l (pre ++ List.replicate suf.length 0) (pre.length : Int)) l := by
  intro suf
  induction suf with
  | nil =>
    intro pre h
    obtain ⟨h1, h2⟩ := end_facts h
    refine ev_end fun k => ?_
    simp only [laws_toIntS.l0]
    rw [if_neg h2]
    simp [h1]
  | cons x suf ih =>
    intro pre h
    obtain ⟨h1, h2, h3, h4⟩ := mid_facts h hl
    refine Ev.step (fun k => ?_) (ih (pre ++ [x]) h4)
    simp only [laws_toIntS.l0]
    rw [if_pos h1, if_pos (by omega), if_pos (by simp; omega), h2, h3]
    congr 1
    simp [List.replicate_succ]
theorem toIntS_ev (l : List Int) (hl : l.length ≤ 35184372088832) : Ev (fun k => laws_toIntS.f k l) l := by
  refine Ev.congr (fun k => ?_) (toIntS_loop l hl l [] rfl)
  unfold laws_toIntS.f
  rw [if_pos (by omega), if_pos (by omega)]
  rfl

theorem eqIntS_loop (a b : List Int) (hl : a.length ≤ 35184372088832) : ∀ (s1 s2 p1 p2 : List Int), a = p1 ++ s1 → b = p2 ++ s2 → p1.length = p2.length → s1.length = s2.length → Ev (fun k => laws_eqIntS.l0 k a b (p1.length : Int)) (decide (s1 = s2)) := by
  intro s1
  induction s1 with
  | nil =>
    intro s2 p1 p2 ha hb hp hs
    obtain rfl : s2 = [] := List.eq_nil_of_length_eq_zero hs.symm
    obtain ⟨_, h2⟩ := end_facts ha
    refine ev_end fun k => ?_
    simp only [laws_eqIntS.l0]
    rw [if_neg h2]
    simp
  | cons x s1 ih =>
    intro s2 p1 p2 ha hb hp hs
    cases s2 with
    | nil => simp at hs
    | cons y s2 =>
    obtain ⟨h1, h2, h3, h4⟩ := mid_facts ha hl
    have hb1 : b.length = p2.length + (s2.length + 1) := by rw [hb]; simp
    have hb2 : rd b (p1.length : Int) = y := by rw [hp, hb]; exact rd_mid p2 y s2
    have hb3 : b = (p2 ++ [y]) ++ s2 := by rw [hb]; simp
    by_cases hxy : x = y
    · refine Ev.step (fun k => ?_) (ev_eq (ih s2 (p1 ++ [x]) (p2 ++ [y]) h4 hb3 (by simp [hp]) (by simpa using hs)) (by simp [hxy]))
      simp only [laws_eqIntS.l0]
      rw [if_pos h1, if_pos (by omega), if_pos (by omega), h2, hb2, if_pos hxy, h3]
    · refine ev_end fun k => ?_
      simp only [laws_eqIntS.l0]
      rw [if_pos h1, if_pos (by omega), if_pos (by omega), h2, hb2, if_neg hxy]
      simp [hxy]
theorem eqIntS_ev (a b : List Int) (hl : a.length ≤ 35184372088832) : Ev (fun k => laws_eqIntS.f k a b) (decide (a = b)) := by
  by_cases h : a.length = b.length
  · refine Ev.congr (fun k => ?_) (eqIntS_loop a b hl a b [] [] rfl rfl rfl h)
    unfold laws_eqIntS.f
    rw [if_pos (by omega)]
    rfl
  · refine ev_some fun k => ?_
    unfold laws_eqIntS.f
    rw [if_neg (by omega)]
    have : a ≠ b := fun e => h (by rw [e])
    simp [this]
theorem eqIntS_same (a : List Int) (hl : a.length ≤ 35184372088832) : Ev (fun k => laws_eqIntS.f k a a) true := ev_eq (eqIntS_ev a a hl) (by simp)


/-! ### HasCard and PlaceOf -/
theorem specHas_loop (l : List Int) (c : Int) (hl : l.length ≤ 35184372088832) : ∀ (suf pre : List Int), l = pre ++ suf → Ev (fun k => spec_HasCard.l0 k l c (pre.length : Int)) (decide (c ∈ suf)) := by
  intro suf
  induction suf with
  | nil =>
    intro pre h
    obtain ⟨_, h2⟩ := end_facts h
    refine ev_end fun k => ?_
    simp only [spec_HasCard.l0]
    rw [if_neg h2]
    simp
  | cons x suf ih =>
    intro pre h
    obtain ⟨h1, h2, h3, h4⟩ := mid_facts h hl
    by_cases hx : x = c
    · refine ev_end fun k => ?_
      simp only [spec_HasCard.l0]
      rw [if_pos h1, if_pos (by omega), h2, if_pos hx]
      simp [hx]
    · have hx' : ¬ c = x := fun e => hx e.symm
      refine Ev.step (fun k => ?_) (ev_eq (ih (pre ++ [x]) h4) (by simp [hx']))
      simp only [spec_HasCard.l0]
      rw [if_pos h1, if_pos (by omega), h2, if_neg hx, h3]
theorem specHas_ev (l : List Int) (c : Int) (hl : l.length ≤ 35184372088832) : Ev (fun k => spec_HasCard.f k l c) (decide (c ∈ l)) := specHas_loop l c hl l [] rfl

def cardP (c : Int) : Bool := decide (0 ≤ c ∧ c ≤ 51)

theorem spec_card (c : Int) : spec_IsCard.f c = some (cardP c) := by
  unfold spec_IsCard.f spec_l1In.f cardP
  by_cases h : 0 ≤ c
  · simp [h]
  · simp [h]

theorem impl_card (c : Int) : impl_IsCard.f c = some (cardP c) := by
  unfold impl_IsCard.f impl_InRange.f cardP
  by_cases h : 0 ≤ c
  · simp [h]
  · simp [h]

/-! ### IsHand -/
def handF : List Int → List Int → Bool
  | _, [] => true
  | pre, x :: s => if cardP x = true then (if x ∈ pre then false else handF (pre ++ [x]) s) else false
def handP (l : List Int) : Bool := handF [] l

theorem specHand_loop (l : List Int) (hl : l.length ≤ 35184372088832) : ∀ (suf pre : List Int), l = pre ++ suf → Ev (fun k => spec_IsHand.l0 k l (pre.length : Int)) (handF pre suf) := by
  intro suf
  induction suf with
  | nil =>
    intro pre h
    obtain ⟨_, h2⟩ := end_facts h
    refine ev_end fun k => ?_
    simp only [spec_IsHand.l0]
    rw [if_neg h2]
    rfl
  | cons x suf ih =>
    intro pre h
    obtain ⟨h1, h2, h3, h4⟩ := mid_facts h hl
    have hp : l.take ((pre.length : Nat) : Int).toNat = pre := by rw [h, Int.toNat_natCast, List.take_left]
    have hpl : pre.length ≤ l.length := by rw [h]; simp
    cases hc : cardP x with
    | false =>
      refine ev_end fun k => ?_
      simp only [spec_IsHand.l0]
      rw [if_pos h1, if_pos (by omega), h2, spec_card, hc]
      simp [handF, hc]
    | true =>
      refine Ev.step (f := fun k => (spec_HasCard.f k pre x).bind fun t => if t = true then some false else spec_IsHand.l0 k l (((pre ++ [x]).length : Nat) : Int)) (fun k => ?_) ?_
      · simp only [spec_IsHand.l0]
        rw [if_pos h1, if_pos (by omega), h2, spec_card, hc, h3, hp]
        simp only [Option.bind_some]
        rw [if_pos trivial, if_pos (by omega)]
      · refine ev_bind (specHas_ev pre x (by omega)) ?_
        by_cases hm : x ∈ pre
        · exact ev_pos (by simp [hm]) (ev_some fun _ => by simp [handF, hc, hm])
        · exact ev_neg (by simp [hm]) (ev_eq (ih (pre ++ [x]) h4) (by simp [handF, hc, hm]))
theorem specHand_ev (l : List Int) (hl : l.length ≤ 35184372088832) : Ev (fun k => spec_IsHand.f k l) (handP l) := specHand_loop l hl l [] rfl

theorem implHand_loop (l : List Int) (hl : l.length ≤ 35184372088832) : ∀ (suf pre : List Int) (sn : List Bool), l = pre ++ suf → sn.length = 52 → (∀ n, n < 52 → sn.getD n false = decide ((n : Int) ∈ pre)) → Ev (fun k => impl_IsHand.l0 k sn l (l.length : Int) (pre.length : Int)) (handF pre suf) := by
  intro suf
  induction suf with
  | nil =>
    intro pre sn h _ _
    obtain ⟨_, h2⟩ := end_facts h
    refine ev_end fun k => ?_
    simp only [impl_IsHand.l0]
    rw [if_neg h2]
    rfl
  | cons x suf ih =>
    intro pre sn h hs hn
    obtain ⟨h1, h2, h3, h4⟩ := mid_facts h hl
    cases hc : cardP x with
    | false =>
      refine ev_end fun k => ?_
      simp only [impl_IsHand.l0]
      rw [if_pos h1, if_pos (by omega), if_pos h1, h2, impl_card, hc]
      simp [handF, hc]
    | true =>
      have hx : 0 ≤ x ∧ x ≤ 51 := by simpa [cardP] using hc
      have hg := hn x.toNat (by omega)
      rw [Int.toNat_of_nonneg hx.1] at hg
      by_cases hm : x ∈ pre
      · have hg2 : sn.getD x.toNat false = true := by rw [hg]; simp [hm]
        refine ev_end fun k => ?_
        simp only [impl_IsHand.l0]
        rw [if_pos h1, if_pos (by omega), if_pos h1, h2, impl_card, hc]
        simp only [Option.bind_some]
        rw [if_pos trivial, if_pos hg2]
        simp [handF, hc, hm]
      · have hg2 : ¬ sn.getD x.toNat false = true := by rw [hg]; simp [hm]
        refine Ev.step (fun k => ?_) (ev_eq (ih (pre ++ [x]) (sn.set x.toNat true) h4 (by simpa using hs) ?_) (by simp [handF, hc, hm]))
        · simp only [impl_IsHand.l0]
          rw [if_pos h1, if_pos (by omega), if_pos h1, h2, impl_card, hc]
          simp only [Option.bind_some]
          rw [if_pos trivial, if_neg hg2, h3]
        · intro n hn52
          by_cases e : n = x.toNat
          · subst e
            rw [List.getD_eq_getElem?_getD, List.getElem?_set_self (by omega)]
            simp [Int.toNat_of_nonneg hx.1]
          · have e2 : ¬ (n : Int) = x := by omega
            rw [List.getD_eq_getElem?_getD, List.getElem?_set_ne (by omega), ← List.getD_eq_getElem?_getD, hn n hn52]
            simp [e2]
theorem implHand_ev (l : List Int) (hl : l.length ≤ 35184372088832) : Ev (fun k => impl_IsHand.f k l) (handP l) := implHand_loop l hl l [] (List.replicate 52 false) rfl (by simp) (by
  intro n hn
  rw [List.getD_eq_getElem?_getD, List.getElem?_replicate, if_pos hn]
  simp)

/-! ### Slices of slices -/
theorem rdL_mid (pre : List (List Int)) (x : List Int) (suf : List (List Int)) : rd_L1 (pre ++ x :: suf) (pre.length : Int) = x := by simp [rd_L1]
theorem snocL_len (pre : List (List Int)) (x : List Int) : (((pre ++ [x]).length : Nat) : Int) = (pre.length : Int) + 1 := by simp
theorem midL_facts {l pre suf : List (List Int)} {x : List Int} (h : l = pre ++ x :: suf) (hl : l.length ≤ 35184372088832) :
    (pre.length : Int) < (l.length : Int) ∧ rd_L1 l (pre.length : Int) = x ∧ wrap64 ((pre.length : Int) + 1) = (((pre ++ [x]).length : Nat) : Int) ∧ l = (pre ++ [x]) ++ suf := by
  have hlen : l.length = pre.length + (suf.length + 1) := by rw [h]; simp
  refine ⟨by omega, by rw [h]; exact rdL_mid pre x suf, ?_, by rw [h]; simp⟩
  rw [snocL_len]
  exact wrap_ok (by omega)
theorem endL_facts {l pre : List (List Int)} (h : l = pre ++ []) : l = pre ∧ ¬ (pre.length : Int) < (l.length : Int) := by
  rw [List.append_nil] at h
  subst h
  exact ⟨rfl, by omega⟩
def tot : List (List Int) → Nat
  | [] => 0
  | x :: s => x.length + tot s
theorem tot_mem {l : List (List Int)} {x : List Int} (h : x ∈ l) : x.length ≤ tot l := by
  induction l with
  | nil => simp at h
  | cons y l ih =>
    rcases List.mem_cons.1 h with rfl | h
    · simp [tot]
    · have := ih h
      simp [tot]
      omega
theorem tot_append (a b : List (List Int)) : tot (a ++ b) = tot a + tot b := by
  induction a with
  | nil => simp [tot]
  | cons x a ih => simp [tot, ih]; omega

theorem sz_loop (l : List (List Int)) (hl : l.length ≤ 1048576) (hw : ∀ x ∈ l, x.length ≤ maxLen) : ∀ (suf pre : List (List Int)) (m : Int), l = pre ++ suf → 0 ≤ m → m ≤ 1048576 → Ev (fun k => laws_szIntSS.l0 k l m (pre.length : Int)) (if m < (tot suf : Int) then -1 else m - (tot suf : Int)) := by
  intro suf
  induction suf with
  | nil =>
    intro pre m h h0 h1
    obtain ⟨_, h2⟩ := endL_facts h
    refine ev_end fun k => ?_
    simp only [laws_szIntSS.l0]
    rw [if_neg h2, if_neg (by simp [tot]; omega)]
    simp [tot]
  | cons x suf ih =>
    intro pre m h h0 h1
    obtain ⟨h2, h3, h4, h5⟩ := midL_facts h (by omega)
    have hx := hw x (by rw [h]; simp)
    unfold maxLen at hx
    have e : laws_szIntS.f x m = some (if m - (x.length : Int) < 0 then -1 else m - (x.length : Int)) := by
      unfold laws_szIntS.f
      rw [wrap_ok (by omega)]
      split <;> rfl
    by_cases hm : m - (x.length : Int) < 0
    · refine ev_end fun k => ?_
      simp only [laws_szIntSS.l0]
      rw [if_pos h2, if_pos (by omega), h3, e, if_pos hm]
      simp only [Option.bind_some]
      rw [if_pos (by omega), if_pos (by simp [tot]; omega)]
    · refine Ev.step (fun k => ?_) (ev_eq (ih (pre ++ [x]) (m - (x.length : Int)) h5 (by omega) (by omega)) ?_)
      · simp only [laws_szIntSS.l0]
        rw [if_pos h2, if_pos (by omega), h3, e, if_neg hm]
        simp only [Option.bind_some]
        rw [if_neg hm, h4]
      · have et : (tot (x :: suf) : Int) = (x.length : Int) + (tot suf : Int) := by simp [tot]
        rw [et]
        by_cases hc : m - (x.length : Int) < (tot suf : Int)
        · rw [if_pos hc, if_pos (by omega)]
        · rw [if_neg hc, if_neg (by omega)]
          omega
theorem sz_ev (l : List (List Int)) (hm : l.length ≤ maxLen) (hw : ∀ x ∈ l, x.length ≤ maxLen) : ∃ s, Ev (fun k => laws_szIntSS.f k l 1048576) s ∧ (s < 0 ∨ l.length + tot l ≤ 1048576) := by
  unfold maxLen at hm
  unfold laws_szIntSS.f
  rw [wrap_ok (by omega)]
  by_cases h : (1048576 : Int) - (l.length : Int) < 0
  · exact ⟨-1, ev_pos h (Ev.now _), .inl (by omega)⟩
  · refine ⟨_, ev_neg h (sz_loop l (by omega) hw l [] _ rfl (by omega) (by omega)), ?_⟩
    by_cases hc : (1048576 : Int) - (l.length : Int) < (tot l : Int)
    · rw [if_pos hc]; left; omega
    · right; omega

theorem toSS_loop (l : List (List Int)) (hl : l.length ≤ 1048576) (hw : ∀ x ∈ l, x.length ≤ 1048576) : ∀ (suf pre : List (List Int)), l = pre ++ suf → Ev (fun k => laws_toIntSS.l0 k l (pre ++ List.replicate suf.length []) (pre.length : Int)) l := by
  intro suf
  induction suf with
  | nil =>
    intro pre h
    obtain ⟨h1, h2⟩ := endL_facts h
    refine ev_end fun k => ?_
    simp only [laws_toIntSS.l0]
    rw [if_neg h2]
    simp [h1]
  | cons x suf ih =>
    intro pre h
    obtain ⟨h1, h2, h3, h4⟩ := midL_facts h (by omega)
    have hx := hw x (by rw [h]; simp)
    refine Ev.step (f := fun k => (laws_toIntS.f k x).bind fun t => laws_toIntSS.l0 k l ((pre ++ List.replicate (suf.length + 1) []).set pre.length t) (((pre ++ [x]).length : Nat) : Int)) (fun k => ?_) ?_
    · simp only [laws_toIntSS.l0]
      rw [if_pos h1, if_pos (by omega), h2, h3]
      simp only [if_pos (show (pre.length : Int) < ((pre ++ List.replicate (x :: suf).length ([] : List Int)).length : Int) by simp; omega)]
      rfl
    · refine ev_bind (toIntS_ev x (by omega)) ?_
      have e : (pre ++ List.replicate (suf.length + 1) ([] : List Int)).set pre.length x = (pre ++ [x]) ++ List.replicate suf.length [] := by simp [List.replicate_succ]
      rw [e]
      exact ih (pre ++ [x]) h4
theorem toSS_ev (l : List (List Int)) (hl : l.length ≤ 1048576) (hw : ∀ x ∈ l, x.length ≤ 1048576) : Ev (fun k => laws_toIntSS.f k l) l := by
  refine Ev.congr (fun k => ?_) (toSS_loop l hl hw l [] rfl)
  unfold laws_toIntSS.f
  rw [if_pos (by omega), if_pos (by omega)]
  rfl
theorem eqSS_loop (l : List (List Int)) (hl : l.length ≤ 1048576) (hw : ∀ x ∈ l, x.length ≤ 1048576) : ∀ (suf pre : List (List Int)), l = pre ++ suf → Ev (fun k => laws_eqIntSS.l0 k l l (pre.length : Int)) true := by
  intro suf
  induction suf with
  | nil =>
    intro pre h
    obtain ⟨h1, h2⟩ := endL_facts h
    refine ev_end fun k => ?_
    simp only [laws_eqIntSS.l0]
    rw [if_neg h2]
  | cons x suf ih =>
    intro pre h
    obtain ⟨h1, h2, h3, h4⟩ := midL_facts h (by omega)
    have hx := hw x (by rw [h]; simp)
    refine Ev.step (f := fun k => (laws_eqIntS.f k x x).bind fun t => if t = true then laws_eqIntSS.l0 k l l (((pre ++ [x]).length : Nat) : Int) else some false) (fun k => ?_) ?_
    · simp only [laws_eqIntSS.l0]
      rw [if_pos h1, if_pos (by omega), if_pos h1, h2, h3]
    · refine ev_bind (eqIntS_same x (by omega)) ?_
      exact ev_pos rfl (ih (pre ++ [x]) h4)
theorem eqSS_same (l : List (List Int)) (hl : l.length ≤ 1048576) (hw : ∀ x ∈ l, x.length ≤ 1048576) : Ev (fun k => laws_eqIntSS.f k l l) true := by
  unfold laws_eqIntSS.f
  exact ev_pos rfl (eqSS_loop l hl hw l [] rfl)

theorem flat_len (l : List (List Int)) : l.flatten.length = tot l := by
  induction l with
  | nil => rfl
  | cons x l ih => simp [tot, ih]
theorem specApart_loop (l : List (List Int)) (hl : l.length ≤ 1048576) : ∀ (suf pre : List (List Int)) (acc : List Int), l = pre ++ suf → acc.length + tot suf ≤ 1048576 → Ev (fun k => spec_AllApart.l0 k l acc (pre.length : Int)) (handP (acc ++ suf.flatten)) := by
  intro suf
  induction suf with
  | nil =>
    intro pre acc h ha
    obtain ⟨_, h2⟩ := endL_facts h
    refine Ev.step (f := fun k => (spec_IsHand.f k acc).bind fun t => some t) (fun k => ?_) ?_
    · simp only [spec_AllApart.l0]
      rw [if_neg h2]
    · refine ev_bind (specHand_ev acc (by omega)) ?_
      exact ev_some fun _ => by simp
  | cons x suf ih =>
    intro pre acc h ha
    obtain ⟨h2, h3, h4, h5⟩ := midL_facts h (by omega)
    simp only [tot] at ha
    refine Ev.step (fun k => ?_) (ev_eq (ih (pre ++ [x]) (acc ++ x) h5 (by simp; omega)) (by simp))
    simp only [spec_AllApart.l0]
    rw [if_pos h2, if_pos (by omega), h3, if_pos (by omega), h4]
theorem implApart_loop (l : List (List Int)) (hl : l.length ≤ 1048576) : ∀ (suf pre : List (List Int)) (acc : List Int), l = pre ++ suf → acc.length + tot suf ≤ 1048576 → Ev (fun k => impl_AllApart.l0 k acc l (l.length : Int) (pre.length : Int)) (handP (acc ++ suf.flatten)) := by
  intro suf
  induction suf with
  | nil =>
    intro pre acc h ha
    obtain ⟨_, h2⟩ := endL_facts h
    refine Ev.step (f := fun k => (impl_IsHand.f k acc).bind fun t => some t) (fun k => ?_) ?_
    · simp only [impl_AllApart.l0]
      rw [if_neg h2]
    · refine ev_bind (implHand_ev acc (by omega)) ?_
      exact ev_some fun _ => by simp
  | cons x suf ih =>
    intro pre acc h ha
    obtain ⟨h2, h3, h4, h5⟩ := midL_facts h (by omega)
    simp only [tot] at ha
    refine Ev.step (fun k => ?_) (ev_eq (ih (pre ++ [x]) (acc ++ x) h5 (by simp; omega)) (by simp))
    simp only [impl_AllApart.l0]
    rw [if_pos h2, if_pos (by omega), if_pos h2, h3, if_pos (by omega), h4]
theorem FnExactAllApart : laws_FnExactAllApart.Pure := by
  intro l0 hm hwf
  refine Ev.rounds ?_
  obtain ⟨s, hs, hc⟩ := sz_ev l0 hm (fun x hx => (hwf x hx).1)
  unfold laws_FnExactAllApart.f
  refine ev_bind hs ?_
  by_cases h0 : s < 0
  · exact ev_pos h0 (Ev.now true)
  have hl : l0.length ≤ 1048576 := by omega
  have ht : tot l0 ≤ 1048576 := by omega
  have hx : ∀ x ∈ l0, x.length ≤ 1048576 := fun x hx => by have := tot_mem hx; omega
  refine ev_neg h0 ?_
  refine ev_bind (toSS_ev l0 hl hx) ?_
  refine ev_bind (specApart_loop l0 hl l0 [] [] rfl (by simp; omega)) ?_
  refine ev_bind (toSS_ev l0 hl hx) ?_
  refine ev_bind (implApart_loop l0 hl l0 [] [] rfl (by simp; omega)) ?_
  refine ev_neg (by simp) ?_
  refine ev_bind (toSS_ev l0 hl hx) ?_
  refine ev_bind (eqSS_same l0 hl hx) ?_
  refine ev_pos rfl ?_
  exact Ev.now true

end Go.Proofs.Ytbjecehiappdeac.Pure
