/- The law FnExactCollected returns true at every list of lists of integers and every list of integers: the program's Collected answers as the reference's, leaves its arguments and shares no memory. No condition. -/
import Derived.Test.YtbjecehiappdeacQFnExactCollectedx3
import Derived.Test.YtbjecehiappdeacWSized
namespace Go.Proofs.Ytbjecehiappdeac.Pure
open Go.RowKit Go.Proofs.Ytbjecehiappdeac.QFnExactCollected Go.Proofs.YtbjecehiappdeacW.PrintWords Go.Proofs.YtbjecehiappdeacW.PrintLast Go.Proofs.YtbjecehiappdeacW.PrintMore
set_option linter.unusedVariables false
set_option linter.unusedSimpArgs false

/-! ### Words on rounds and on lists -/
theorem ev_bind {α β : Type} {g : Nat → Option α} {f : Nat → α → Option β} {a : α} {r : β} (h : Ev g a) (k : Ev (fun n => f n a) r) : Ev (fun n => (g n).bind (f n)) r := Ev.bind h k
theorem ev_call {α β : Type} {o : Option α} {f : Nat → α → Option β} {a : α} {r : β} (h : o = some a) (k : Ev (fun n => f n a) r) : Ev (fun n => o.bind (f n)) r := by
  subst h; exact k
theorem ev_pos {α : Type} {c : Prop} [Decidable c] {f g : Nat → Option α} {r : α} (h : c) (e : Ev f r) : Ev (fun n => if c then f n else g n) r := by
  obtain ⟨K, hK⟩ := e
  exact ⟨K, fun n hn => by show (if c then f n else g n) = some r; rw [if_pos h]; exact hK n hn⟩
theorem ev_neg {α : Type} {c : Prop} [Decidable c] {f g : Nat → Option α} {r : α} (h : ¬ c) (e : Ev g r) : Ev (fun n => if c then f n else g n) r := by
  obtain ⟨K, hK⟩ := e
  exact ⟨K, fun n hn => by show (if c then f n else g n) = some r; rw [if_neg h]; exact hK n hn⟩
theorem ev_end {α : Type} {g : Nat → Option α} {r : α} (h : ∀ k, g (k + 1) = some r) : Ev g r := Ev.step (f := fun _ => some r) h (Ev.now r)
theorem ev_eq {α : Type} {g : Nat → Option α} {r r' : α} (h : Ev g r) (e : r = r') : Ev g r' := e ▸ h
theorem ev_some {α : Type} {g : Nat → Option α} {r : α} (h : ∀ k, g k = some r) : Ev g r := ⟨0, fun k _ => h k⟩
theorem wrap_ok {n : Int} (h : -9223372036854775808 ≤ n ∧ n ≤ 9223372036854775807) : wrap64 n = n := by unfold wrap64; omega
theorem rd_mid (pre : List Int) (x : Int) (suf : List Int) : rd (pre ++ x :: suf) (pre.length : Int) = x := by simp [rd]
theorem snoc_len (pre : List Int) (x : Int) : (((pre ++ [x]).length : Nat) : Int) = (pre.length : Int) + 1 := by simp
theorem mid_facts {l pre suf : List Int} {x : Int} (h : l = pre ++ x :: suf) (hl : l.length ≤ 35184372088832) :
    (pre.length : Int) < (l.length : Int) ∧ rd l (pre.length : Int) = x ∧ wrap64 ((pre.length : Int) + 1) = (((pre ++ [x]).length : Nat) : Int) ∧ l = (pre ++ [x]) ++ suf := by
  have hlen : l.length = pre.length + (suf.length + 1) := by rw [h]; simp
  refine ⟨by omega, by rw [h]; exact rd_mid pre x suf, ?_, by rw [h]; simp⟩
  rw [snoc_len]
  exact wrap_ok (by omega)
theorem end_facts {l pre : List Int} (h : l = pre ++ []) : l = pre ∧ ¬ (pre.length : Int) < (l.length : Int) := by
  rw [List.append_nil] at h
  subst h
  exact ⟨rfl, by omega⟩
/-- The marks m, m + 1, .. -/
def marks : Int → Nat → List Int
  | _, 0 => []
  | m, n + 1 => m :: marks (m + 1) n
theorem marks_length (m : Int) (n : Nat) : (marks m n).length = n := by
  induction n generalizing m with
  | zero => rfl
  | succ n ih => simp [marks, ih]

/-! ### The law's own helpers on slices of int -/
theorem toIntS_loop (l : List Int) (hl : l.length ≤ 35184372088832) : ∀ (suf pre : List Int), l = pre ++ suf → Ev (fun k => laws_toIntS.l0 k l (pre ++ List.replicate suf.length 0) (pre.length : Int)) l := by
  intro suf
  induction suf with
  | nil =>
    intro pre h
    obtain ⟨h1, h2⟩ := end_facts h
    refine ev_end fun k => ?_
    simp only [laws_toIntS.l0]
    rw [if_neg h2]
    simp [h1]
  | cons x suf ih =>
    intro pre h
    obtain ⟨h1, h2, h3, h4⟩ := mid_facts h hl
    refine Ev.step (fun k => ?_) (ih (pre ++ [x]) h4)
    simp only [laws_toIntS.l0]
    rw [if_pos h1, if_pos (by omega), if_pos (by simp; omega), h2, h3]
    congr 1
    simp [List.replicate_succ]
theorem toIntS_ev (l : List Int) (hl : l.length ≤ 35184372088832) : Ev (fun k => laws_toIntS.f k l) l := by
  refine Ev.congr (fun k => ?_) (toIntS_loop l hl l [] rfl)
  unfold laws_toIntS.f
  rw [if_pos (by omega), if_pos (by omega)]
  rfl

theorem eqIntS_loop (a b : List Int) (hl : a.length ≤ 35184372088832) : ∀ (s1 s2 p1 p2 : List Int), a = p1 ++ s1 → b = p2 ++ s2 → p1.length = p2.length → s1.length = s2.length → Ev (fun k => laws_eqIntS.l0 k a b (p1.length : Int)) (decide (s1 = s2)) := by
  intro s1
  induction s1 with
  | nil =>
    intro s2 p1 p2 ha hb hp hs
    obtain rfl : s2 = [] := List.eq_nil_of_length_eq_zero hs.symm
    obtain ⟨_, h2⟩ := end_facts ha
    refine ev_end fun k => ?_
    simp only [laws_eqIntS.l0]
    rw [if_neg h2]
    simp
  | cons x s1 ih =>
    intro s2 p1 p2 ha hb hp hs
    cases s2 with
    | nil => simp at hs
    | cons y s2 =>
    obtain ⟨h1, h2, h3, h4⟩ := mid_facts ha hl
    have hb1 : b.length = p2.length + (s2.length + 1) := by rw [hb]; simp
    have hb2 : rd b (p1.length : Int) = y := by rw [hp, hb]; exact rd_mid p2 y s2
    have hb3 : b = (p2 ++ [y]) ++ s2 := by rw [hb]; simp
    by_cases hxy : x = y
    · refine Ev.step (fun k => ?_) (ev_eq (ih s2 (p1 ++ [x]) (p2 ++ [y]) h4 hb3 (by simp [hp]) (by simpa using hs)) (by simp [hxy]))
      simp only [laws_eqIntS.l0]
      rw [if_pos h1, if_pos (by omega), if_pos (by omega), h2, hb2, if_pos hxy, h3]
    · refine ev_end fun k => ?_
      simp only [laws_eqIntS.l0]
      rw [if_pos h1, if_pos (by omega), if_pos (by omega), h2, hb2, if_neg hxy]
      simp [hxy]
theorem eqIntS_ev (a b : List Int) (hl : a.length ≤ 35184372088832) : Ev (fun k => laws_eqIntS.f k a b) (decide (a = b)) := by
  by_cases h : a.length = b.length
  · refine Ev.congr (fun k => ?_) (eqIntS_loop a b hl a b [] [] rfl rfl rfl h)
    unfold laws_eqIntS.f
    rw [if_pos (by omega)]
    rfl
  · refine ev_some fun k => ?_
    unfold laws_eqIntS.f
    rw [if_neg (by omega)]
    have : a ≠ b := fun e => h (by rw [e])
    simp [this]
theorem eqIntS_same (a : List Int) (hl : a.length ≤ 35184372088832) : Ev (fun k => laws_eqIntS.f k a a) true := ev_eq (eqIntS_ev a a hl) (by simp)


theorem markIntS_loop : ∀ (suf pre : List Int) (m : Int), (pre ++ suf).length ≤ 35184372088832 → 0 ≤ m → m + suf.length ≤ 70368744177664 → Ev (fun k => laws_markIntS.l0 k (pre ++ suf) m (pre.length : Int)) (m + suf.length, pre ++ marks m suf.length) := by
  intro suf
  induction suf with
  | nil =>
    intro pre m hl hm hb
    refine ev_end fun k => ?_
    simp only [laws_markIntS.l0]
    rw [if_neg (by simp)]
    simp [marks]
  | cons x suf ih =>
    intro pre m hl hm hb
    have hlen : (pre ++ x :: suf).length = pre.length + (suf.length + 1) := by simp
    have hc : ((x :: suf).length : Int) = (suf.length : Int) + 1 := by simp
    refine Ev.step (fun k => ?_) (ev_eq (ih (pre ++ [m]) (m + 1) (by simp at hl ⊢; omega) (by omega) (by omega)) (by simp [marks]; omega))
    simp only [laws_markIntS.l0]
    rw [if_pos (by omega), if_pos (by omega), wrap_ok (n := m + 1) (by omega), wrap_ok (n := (pre.length : Int) + 1) (by omega), snoc_len]
    congr 1
    simp
theorem markIntS_ev (l : List Int) (hl : l.length ≤ 35184372088832) : Ev (fun k => laws_markIntS.f k l 1) (1 + (l.length : Int), marks 1 l.length) := markIntS_loop l [] 1 hl (by omega) (by omega)
theorem markIntS_from (l : List Int) (m : Int) (hl : l.length ≤ 35184372088832) (h0 : 0 ≤ m) (hm : m ≤ 35184372088832) : Ev (fun k => laws_markIntS.f k l m) (m + (l.length : Int), marks m l.length) := markIntS_loop l [] m hl h0 (by omega)

theorem heldIntS_loop (n : Nat) : ∀ (pre : List Int) (m : Int), pre.length + n ≤ 35184372088832 → 0 ≤ m → m + n ≤ 70368744177664 → Ev (fun k => laws_heldIntS.l0 k (pre ++ marks m n) m (pre.length : Int)) (m + n) := by
  induction n with
  | zero =>
    intro pre m hl hm hb
    refine ev_end fun k => ?_
    simp only [laws_heldIntS.l0]
    rw [if_neg (by simp [marks])]
    simp
  | succ n ih =>
    intro pre m hl hm hb
    refine Ev.step (fun k => ?_) (ev_eq (ih (pre ++ [m]) (m + 1) (by simp; omega) (by omega) (by omega)) (by omega))
    have e : pre ++ marks m (n + 1) = pre ++ (m) :: marks (m + 1) n := by simp [marks]
    have hlen : (pre ++ (m) :: marks (m + 1) n).length = pre.length + (n + 1) := by simp [marks_length]
    rw [e]
    simp only [laws_heldIntS.l0]
    rw [if_pos (by omega), if_pos (by omega), rd_mid, if_pos rfl, wrap_ok (n := m + 1) (by omega), wrap_ok (n := (pre.length : Int) + 1) (by omega), snoc_len]
    simp
theorem heldIntS_ev (n : Nat) (hl : n ≤ 35184372088832) : Ev (fun k => laws_heldIntS.f k (marks 1 n) 1) (1 + (n : Int)) := heldIntS_loop n [] 1 (by simpa using hl) (by omega) (by omega)


/-! ### Slices of slices -/
theorem rdL_mid (pre : List (List Int)) (x : List Int) (suf : List (List Int)) : rd_L1 (pre ++ x :: suf) (pre.length : Int) = x := by simp [rd_L1]
theorem snocL_len (pre : List (List Int)) (x : List Int) : (((pre ++ [x]).length : Nat) : Int) = (pre.length : Int) + 1 := by simp
theorem midL_facts {l pre suf : List (List Int)} {x : List Int} (h : l = pre ++ x :: suf) (hl : l.length ≤ 35184372088832) :
    (pre.length : Int) < (l.length : Int) ∧ rd_L1 l (pre.length : Int) = x ∧ wrap64 ((pre.length : Int) + 1) = (((pre ++ [x]).length : Nat) : Int) ∧ l = (pre ++ [x]) ++ suf := by
  have hlen : l.length = pre.length + (suf.length + 1) := by rw [h]; simp
  refine ⟨by omega, by rw [h]; exact rdL_mid pre x suf, ?_, by rw [h]; simp⟩
  rw [snocL_len]
  exact wrap_ok (by omega)
theorem endL_facts {l pre : List (List Int)} (h : l = pre ++ []) : l = pre ∧ ¬ (pre.length : Int) < (l.length : Int) := by
  rw [List.append_nil] at h
  subst h
  exact ⟨rfl, by omega⟩
def tot : List (List Int) → Nat
  | [] => 0
  | x :: s => x.length + tot s
theorem tot_mem {l : List (List Int)} {x : List Int} (h : x ∈ l) : x.length ≤ tot l := by
  induction l with
  | nil => simp at h
  | cons y l ih =>
    rcases List.mem_cons.1 h with rfl | h
    · simp [tot]
    · have := ih h
      simp [tot]
      omega
theorem tot_append (a b : List (List Int)) : tot (a ++ b) = tot a + tot b := by
  induction a with
  | nil => simp [tot]
  | cons x a ih => simp [tot, ih]; omega

theorem sz_loop (l : List (List Int)) (hl : l.length ≤ 1048576) (hw : ∀ x ∈ l, x.length ≤ maxLen) : ∀ (suf pre : List (List Int)) (m : Int), l = pre ++ suf → 0 ≤ m → m ≤ 1048576 → Ev (fun k => laws_szIntSS.l0 k l m (pre.length : Int)) (if m < (tot suf : Int) then -1 else m - (tot suf : Int)) := by
  intro suf
  induction suf with
  | nil =>
    intro pre m h h0 h1
    obtain ⟨_, h2⟩ := endL_facts h
    refine ev_end fun k => ?_
    simp only [laws_szIntSS.l0]
    rw [if_neg h2, if_neg (by simp [tot]; omega)]
    simp [tot]
  | cons x suf ih =>
    intro pre m h h0 h1
    obtain ⟨h2, h3, h4, h5⟩ := midL_facts h (by omega)
    have hx := hw x (by rw [h]; simp)
    unfold maxLen at hx
    have e : laws_szIntS.f x m = some (if m - (x.length : Int) < 0 then -1 else m - (x.length : Int)) := by
      unfold laws_szIntS.f
      rw [wrap_ok (by omega)]
      split <;> rfl
    by_cases hm : m - (x.length : Int) < 0
    · refine ev_end fun k => ?_
      simp only [laws_szIntSS.l0]
      rw [if_pos h2, if_pos (by omega), h3, e, if_pos hm]
      simp only [Option.bind_some]
      rw [if_pos (by omega), if_pos (by simp [tot]; omega)]
    · refine Ev.step (fun k => ?_) (ev_eq (ih (pre ++ [x]) (m - (x.length : Int)) h5 (by omega) (by omega)) ?_)
      · simp only [laws_szIntSS.l0]
        rw [if_pos h2, if_pos (by omega), h3, e, if_neg hm]
        simp only [Option.bind_some]
        rw [if_neg hm, h4]
      · have et : (tot (x :: suf) : Int) = (x.length : Int) + (tot suf : Int) := by simp [tot]
        rw [et]
        by_cases hc : m - (x.length : Int) < (tot suf : Int)
        · rw [if_pos hc, if_pos (by omega)]
        · rw [if_neg hc, if_neg (by omega)]
          omega
theorem sz_ev (l : List (List Int)) (hm : l.length ≤ maxLen) (hw : ∀ x ∈ l, x.length ≤ maxLen) : ∃ s, Ev (fun k => laws_szIntSS.f k l 1048576) s ∧ (s < 0 ∨ l.length + tot l ≤ 1048576) := by
  unfold maxLen at hm
  unfold laws_szIntSS.f
  rw [wrap_ok (by omega)]
  by_cases h : (1048576 : Int) - (l.length : Int) < 0
  · exact ⟨-1, ev_pos h (Ev.now _), .inl (by omega)⟩
  · refine ⟨_, ev_neg h (sz_loop l (by omega) hw l [] _ rfl (by omega) (by omega)), ?_⟩
    by_cases hc : (1048576 : Int) - (l.length : Int) < (tot l : Int)
    · rw [if_pos hc]; left; omega
    · right; omega

theorem toSS_loop (l : List (List Int)) (hl : l.length ≤ 1048576) (hw : ∀ x ∈ l, x.length ≤ 1048576) : ∀ (suf pre : List (List Int)), l = pre ++ suf → Ev (fun k => laws_toIntSS.l0 k l (pre ++ List.replicate suf.length []) (pre.length : Int)) l := by
  intro suf
  induction suf with
  | nil =>
    intro pre h
    obtain ⟨h1, h2⟩ := endL_facts h
    refine ev_end fun k => ?_
    simp only [laws_toIntSS.l0]
    rw [if_neg h2]
    simp [h1]
  | cons x suf ih =>
    intro pre h
    obtain ⟨h1, h2, h3, h4⟩ := midL_facts h (by omega)
    have hx := hw x (by rw [h]; simp)
    refine Ev.step (f := fun k => (laws_toIntS.f k x).bind fun t => laws_toIntSS.l0 k l ((pre ++ List.replicate (suf.length + 1) []).set pre.length t) (((pre ++ [x]).length : Nat) : Int)) (fun k => ?_) ?_
    · simp only [laws_toIntSS.l0]
      rw [if_pos h1, if_pos (by omega), h2, h3]
      simp only [if_pos (show (pre.length : Int) < ((pre ++ List.replicate (x :: suf).length ([] : List Int)).length : Int) by simp; omega)]
      rfl
    · refine ev_bind (toIntS_ev x (by omega)) ?_
      have e : (pre ++ List.replicate (suf.length + 1) ([] : List Int)).set pre.length x = (pre ++ [x]) ++ List.replicate suf.length [] := by simp [List.replicate_succ]
      rw [e]
      exact ih (pre ++ [x]) h4
theorem toSS_ev (l : List (List Int)) (hl : l.length ≤ 1048576) (hw : ∀ x ∈ l, x.length ≤ 1048576) : Ev (fun k => laws_toIntSS.f k l) l := by
  refine Ev.congr (fun k => ?_) (toSS_loop l hl hw l [] rfl)
  unfold laws_toIntSS.f
  rw [if_pos (by omega), if_pos (by omega)]
  rfl
theorem eqSS_loop (l : List (List Int)) (hl : l.length ≤ 1048576) (hw : ∀ x ∈ l, x.length ≤ 1048576) : ∀ (suf pre : List (List Int)), l = pre ++ suf → Ev (fun k => laws_eqIntSS.l0 k l l (pre.length : Int)) true := by
  intro suf
  induction suf with
  | nil =>
    intro pre h
    obtain ⟨h1, h2⟩ := endL_facts h
    refine ev_end fun k => ?_
    simp only [laws_eqIntSS.l0]
    rw [if_neg h2]
  | cons x suf ih =>
    intro pre h
    obtain ⟨h1, h2, h3, h4⟩ := midL_facts h (by omega)
    have hx := hw x (by rw [h]; simp)
    refine Ev.step (f := fun k => (laws_eqIntS.f k x x).bind fun t => if t = true then laws_eqIntSS.l0 k l l (((pre ++ [x]).length : Nat) : Int) else some false) (fun k => ?_) ?_
    · simp only [laws_eqIntSS.l0]
      rw [if_pos h1, if_pos (by omega), if_pos h1, h2, h3]
    · refine ev_bind (eqIntS_same x (by omega)) ?_
      exact ev_pos rfl (ih (pre ++ [x]) h4)
theorem eqSS_same (l : List (List Int)) (hl : l.length ≤ 1048576) (hw : ∀ x ∈ l, x.length ≤ 1048576) : Ev (fun k => laws_eqIntSS.f k l l) true := by
  unfold laws_eqIntSS.f
  exact ev_pos rfl (eqSS_loop l hl hw l [] rfl)

/-! ### Collected -/
def colP (i : Int) : List (List Int) → List Int
  | [] => []
  | x :: s => if i < (x.length : Int) then rd x i :: colP i s else colP i s
theorem colP_len (i : Int) (l : List (List Int)) : (colP i l).length ≤ l.length := by
  induction l with
  | nil => simp [colP]
  | cons x s ih =>
    simp only [colP]
    by_cases h : i < (x.length : Int)
    · rw [if_pos h]; simp; exact ih
    · rw [if_neg h]; simp; omega
def collP (l : List (List Int)) : Nat → Int → List Int → List Int
  | 0, _, acc => acc
  | n + 1, i, acc => collP l n (i + 1) (acc ++ colP i l)
theorem collP_len (l : List (List Int)) (hl : l.length ≤ 1048576) : ∀ (n : Nat) (i : Int) (acc : List Int), i + n = 100 → (acc.length : Int) ≤ i * 1048576 → ((collP l n i acc).length : Int) ≤ 104857600 := by
  intro n
  induction n with
  | zero => intro i acc hi ha; simp only [collP]; omega
  | succ n ih =>
    intro i acc hi ha
    have hc := colP_len i l
    refine ih (i + 1) _ (by omega) ?_
    rw [List.length_append]
    omega
theorem specColl_in (l : List (List Int)) (r : List Int) (hl : l.length ≤ 1048576) (i : Int) (h0 : 0 ≤ i) (R : List Int) : ∀ (suf pre : List (List Int)) (acc : List Int), l = pre ++ suf → acc.length + suf.length ≤ 1073741824 → Ev (fun k => spec_Collected.l0 k l r (acc ++ colP i suf) (wrap64 (i + 1))) R → Ev (fun k => spec_Collected.l1 k l r acc i (pre.length : Int)) R := by
  intro suf
  induction suf with
  | nil =>
    intro pre acc h ha e
    obtain ⟨_, h2⟩ := endL_facts h
    refine Ev.step (fun k => ?_) e
    simp only [spec_Collected.l1, colP, List.append_nil]
    rw [if_neg h2]
  | cons x suf ih =>
    intro pre acc h ha e
    obtain ⟨h2, h3, h4, h5⟩ := midL_facts h (by omega)
    simp only [List.length_cons] at ha
    by_cases hx : i < (x.length : Int)
    · simp only [colP, if_pos hx] at e
      refine Ev.step (fun k => ?_) (ih (pre ++ [x]) (acc ++ [rd x i]) h5 (by simp; omega) (by rw [List.append_assoc]; exact e))
      simp only [spec_Collected.l1]
      rw [if_pos h2, if_pos (by omega), h3, if_pos hx, if_pos h0, if_pos (by omega), h4]
    · simp only [colP, if_neg hx] at e
      refine Ev.step (fun k => ?_) (ih (pre ++ [x]) acc h5 (by omega) e)
      simp only [spec_Collected.l1]
      rw [if_pos h2, if_pos (by omega), h3, if_neg hx, h4]
theorem specColl_out (l : List (List Int)) (r : List Int) (hl : l.length ≤ 1048576) (hr : r.length ≤ 1048576) : ∀ (n : Nat) (i : Int) (acc : List Int), 0 ≤ i → i + n = 100 → (acc.length : Int) ≤ i * 1048576 → Ev (fun k => spec_Collected.l0 k l r acc i) (collP l n i acc ++ r) := by
  intro n
  induction n with
  | zero =>
    intro i acc h0 hi ha
    refine ev_end fun k => ?_
    simp only [spec_Collected.l0, collP]
    rw [if_neg (by omega), if_pos (by omega)]
  | succ n ih =>
    intro i acc h0 hi ha
    have hc := colP_len i l
    refine Ev.step (f := fun k => spec_Collected.l1 k l r acc i 0) (fun k => ?_) ?_
    · simp only [spec_Collected.l0]
      rw [if_pos (by omega)]
    · refine specColl_in l r hl i h0 _ l [] acc rfl (by omega) ?_
      rw [wrap_ok (by omega)]
      exact ih (i + 1) _ (by omega) (by omega) (by rw [List.length_append]; omega)
theorem implColl_in (l : List (List Int)) (r : List Int) (hl : l.length ≤ 1048576) (i : Int) (h0 : 0 ≤ i) (R : List Int) : ∀ (suf pre : List (List Int)) (acc : List Int), l = pre ++ suf → acc.length + suf.length ≤ 1073741824 → Ev (fun k => impl_Collected.l0 k l r (acc ++ colP i suf) (wrap64 (i + 1))) R → Ev (fun k => impl_Collected.l1 k l r acc i i l (l.length : Int) (pre.length : Int)) R := by
  intro suf
  induction suf with
  | nil =>
    intro pre acc h ha e
    obtain ⟨_, h2⟩ := endL_facts h
    refine Ev.step (fun k => ?_) e
    simp only [impl_Collected.l1, colP, List.append_nil]
    rw [if_neg h2]
  | cons x suf ih =>
    intro pre acc h ha e
    obtain ⟨h2, h3, h4, h5⟩ := midL_facts h (by omega)
    simp only [List.length_cons] at ha
    by_cases hx : i < (x.length : Int)
    · simp only [colP, if_pos hx] at e
      refine Ev.step (fun k => ?_) (ih (pre ++ [x]) (acc ++ [rd x i]) h5 (by simp; omega) (by rw [List.append_assoc]; exact e))
      simp only [impl_Collected.l1]
      rw [if_pos h2, if_pos (by omega), if_pos h2, h3, if_pos hx, if_pos h0, if_pos (by omega), h4]
    · simp only [colP, if_neg hx] at e
      refine Ev.step (fun k => ?_) (ih (pre ++ [x]) acc h5 (by omega) e)
      simp only [impl_Collected.l1]
      rw [if_pos h2, if_pos (by omega), if_pos h2, h3, if_neg hx, h4]
theorem implColl_out (l : List (List Int)) (r : List Int) (hl : l.length ≤ 1048576) (hr : r.length ≤ 1048576) : ∀ (n : Nat) (i : Int) (acc : List Int), 0 ≤ i → i + n = 100 → (acc.length : Int) ≤ i * 1048576 → Ev (fun k => impl_Collected.l0 k l r acc i) (collP l n i acc ++ r) := by
  intro n
  induction n with
  | zero =>
    intro i acc h0 hi ha
    refine ev_end fun k => ?_
    simp only [impl_Collected.l0, collP]
    rw [if_neg (by omega), if_pos (by omega)]
  | succ n ih =>
    intro i acc h0 hi ha
    have hc := colP_len i l
    refine Ev.step (f := fun k => impl_Collected.l1 k l r acc i i l (l.length : Int) 0) (fun k => ?_) ?_
    · simp only [impl_Collected.l0]
      rw [if_pos (by omega)]
    · refine implColl_in l r hl i h0 _ l [] acc rfl (by omega) ?_
      rw [wrap_ok (by omega)]
      exact ih (i + 1) _ (by omega) (by omega) (by rw [List.length_append]; omega)
theorem coll_ev (l : List (List Int)) (r : List Int) (hl : l.length ≤ 1048576) (hr : r.length ≤ 1048576) : ∃ w, Ev (fun k => spec_Collected.f k l r) w ∧ Ev (fun k => impl_Collected.f k l r) w ∧ w.length ≤ 268435456 := by
  have hn := collP_len l hl 100 0 [] (by omega) (by simp)
  refine ⟨collP l 100 0 [] ++ r, specColl_out l r hl hr 100 0 [] (by omega) (by omega) (by simp), implColl_out l r hl hr 100 0 [] (by omega) (by omega) (by simp), ?_⟩
  rw [List.length_append]
  omega
theorem markIntSS_loop : ∀ (suf pre : List (List Int)) (m : Int), (pre ++ suf).length ≤ 1048576 → 0 ≤ m → m + tot suf ≤ 35184372088832 → Ev (fun k => laws_markIntSS.l0 k (pre ++ suf) m (pre.length : Int)) (m + tot suf) := by
  intro suf
  induction suf with
  | nil =>
    intro pre m hl hm hb
    refine ev_end fun k => ?_
    simp only [laws_markIntSS.l0]
    rw [if_neg (by simp)]
    simp [tot]
  | cons x suf ih =>
    intro pre m hl hm hb
    simp only [tot] at hb
    obtain ⟨h2, h3, h4, h5⟩ := midL_facts (l := pre ++ x :: suf) rfl (by omega)
    have e2 := ih (pre ++ [marks m x.length]) (m + x.length) (by simp at hl ⊢; omega) (by omega) (by omega)
    refine Ev.step (f := fun k => (laws_markIntS.f k x m).bind fun bt => laws_markIntSS.l0 k ((pre ++ x :: suf).set pre.length bt.2) bt.1 (((pre ++ [x]).length : Nat) : Int)) (fun k => ?_) ?_
    · simp only [laws_markIntSS.l0]
      rw [if_pos h2, if_pos (by omega), h3, h4]
      rfl
    · refine ev_bind (markIntS_from x m (by omega) hm (by omega)) ?_
      have es : (pre ++ x :: suf).set pre.length (marks m x.length) = (pre ++ [marks m x.length]) ++ suf := by simp
      have el : (((pre ++ [x]).length : Nat) : Int) = (((pre ++ [marks m x.length]).length : Nat) : Int) := by simp
      simp only []
      rw [es, el]
      refine ev_eq e2 ?_
      simp only [tot]
      omega
theorem markIntSS_ev (l : List (List Int)) (hl : l.length ≤ 1048576) (ht : tot l ≤ 1048576) : Ev (fun k => laws_markIntSS.f k l 1) (1 + (tot l : Int)) := markIntSS_loop l [] 1 hl (by omega) (by omega)
theorem FnExactCollected : laws_FnExactCollected.Pure := by
  intro l0 l1 hm hwf _ _ _
  refine Ev.rounds ?_
  by_cases hb : (l1.length : Int) > 1048576
  · exact ev_some fun k => by unfold laws_FnExactCollected.f; rw [if_pos hb]
  obtain ⟨s, hs, hc⟩ := sz_ev l0 hm (fun x hx => (hwf x hx).1)
  unfold laws_FnExactCollected.f
  refine ev_neg hb ?_
  refine ev_bind hs ?_
  by_cases h0 : s < 0
  · exact ev_pos h0 (Ev.now true)
  have hl : l0.length ≤ 1048576 := by omega
  have ht : tot l0 ≤ 1048576 := by omega
  have hl1 : l1.length ≤ 1048576 := by omega
  have hx : ∀ x ∈ l0, x.length ≤ 1048576 := fun x hx => by have := tot_mem hx; omega
  obtain ⟨w, es, ei, hw⟩ := coll_ev l0 l1 hl hl1
  refine ev_neg h0 ?_
  refine ev_bind (toSS_ev l0 hl hx) ?_
  refine ev_bind (toIntS_ev l1 (by omega)) ?_
  refine ev_bind es ?_
  refine ev_bind (toSS_ev l0 hl hx) ?_
  refine ev_bind (toIntS_ev l1 (by omega)) ?_
  refine ev_bind ei ?_
  refine ev_bind (eqIntS_same _ (by omega)) ?_
  refine ev_pos rfl ?_
  refine ev_bind (toSS_ev l0 hl hx) ?_
  refine ev_bind (eqSS_same l0 hl hx) ?_
  refine ev_pos rfl ?_
  refine ev_bind (toIntS_ev l1 (by omega)) ?_
  refine ev_bind (eqIntS_same l1 (by omega)) ?_
  refine ev_pos rfl ?_
  refine ev_bind (markIntSS_ev l0 hl ht) ?_
  refine ev_bind (markIntS_from l1 _ (by omega) (by omega) (by omega)) ?_
  refine ev_neg (by first | omega | (simp only []; omega)) ?_
  refine ev_bind (eqIntS_same _ (by omega)) ?_
  refine Ev.step (fun k => laws_FnExactCollected.j0.eq_2 _ _ _ _ _ k) ?_
  refine ev_neg (by simp) ?_
  refine ev_bind (markIntS_ev _ (by omega)) ?_
  refine ev_bind (heldIntS_ev _ (by omega)) ?_
  refine ev_neg (by first | omega | (simp only []; omega)) ?_
  refine ev_pos rfl ?_
  refine ev_bind (toSS_ev l0 hl hx) ?_
  refine ev_bind (toIntS_ev l1 (by omega)) ?_
  refine ev_bind ei ?_
  refine ev_bind (eqIntS_same _ (by omega)) ?_
  refine ev_pos rfl ?_
  refine ev_bind (heldIntS_ev _ (by omega)) ?_
  refine ev_neg (by first | omega | (simp only []; omega)) ?_
  refine ev_pos rfl ?_
  exact Ev.now true

end Go.Proofs.Ytbjecehiappdeac.Pure

/-- The words' fact, under the name by which the row asks for it. -/
theorem Go.Proofs.Ytbjecehiappdeac.PrintWords.sized_ints {H : Type} {enc : Go.TypeId × Go.Value → H} {P : Go.Program} {W : Go.World} {base : Nat} {spare : Nat → Bool} {held : Bool} {t e : Go.TypeId} {k : Go.IntKind} {a : Option Go.Addr} {len cap : Nat} {d : Go.DataW H} {ps : List Go.MemPlace} {ts : List Go.TypeId} {ds : List (Go.DataW H)} {j : Nat}
    (hsz : (Go.DataW.weightsEach P ts ds).all (· ≤ Go.reachBytes) = true) (ht : ts[j]? = some t) (hd : ds[j]? = some d) (hu : P.underlying t = some (.slice e)) (he : P.underlying e = some (.int k)) (hc : P.cellsOf e = 1) {B : Nat} (hB : P.bytesOf e = B)
    (h : Go.DataW.Trod enc P W base spare held t (.slice a len cap) d ps) : len * B ≤ 140737488351232 := Go.Proofs.YtbjecehiappdeacW.PrintWords.sized_ints hsz ht hd hu he hc hB h
