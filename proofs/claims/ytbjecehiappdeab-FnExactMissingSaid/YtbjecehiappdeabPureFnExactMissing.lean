/- The law FnExactMissing returns true at every list of integers: the program's Missing answers as the reference's, leaves its argument and shares no memory. No condition. -/
import Derived.Test.YtbjecehiappdeabPFnExactMissingx2
import Derived.Test.YtbjecehiappdeabWSized
namespace Go.Proofs.Ytbjecehiappdeab.Pure
open Go.RowKit Go.Proofs.Ytbjecehiappdeab.PFnExactMissing Go.Proofs.YtbjecehiappdeabW.PrintWords Go.Proofs.YtbjecehiappdeabW.PrintLast Go.Proofs.YtbjecehiappdeabW.PrintMore

/-! ### Words on rounds and on lists -/
theorem ev_bind {α β : Type} {g : Nat → Option α} {f : Nat → α → Option β} {a : α} {r : β} (h : Ev g a) (k : Ev (fun n => f n a) r) : Ev (fun n => (g n).bind (f n)) r := Ev.bind h k
theorem ev_call {α β : Type} {o : Option α} {f : Nat → α → Option β} {a : α} {r : β} (h : o = some a) (k : Ev (fun n => f n a) r) : Ev (fun n => o.bind (f n)) r := by
  subst h; exact k
theorem ev_pos {α : Type} {c : Prop} [Decidable c] {f g : Nat → Option α} {r : α} (h : c) (e : Ev f r) : Ev (fun n => if c then f n else g n) r := by
  obtain ⟨K, hK⟩ := e
  exact ⟨K, fun n hn => by show (if c then f n else g n) = some r; rw [if_pos h]; exact hK n hn⟩
theorem ev_neg {α : Type} {c : Prop} [Decidable c] {f g : Nat → Option α} {r : α} (h : ¬ c) (e : Ev g r) : Ev (fun n => if c then f n else g n) r := by
  obtain ⟨K, hK⟩ := e
  exact ⟨K, fun n hn => by show (if c then f n else g n) = some r; rw [if_neg h]; exact hK n hn⟩
theorem ev_end {α : Type} {g : Nat → Option α} {r : α} (h : ∀ k, g (k + 1) = some r) : Ev g r := Ev.step (f := fun _ => some r) h (Ev.now r)
theorem ev_eq {α : Type} {g : Nat → Option α} {r r' : α} (h : Ev g r) (e : r = r') : Ev g r' := e ▸ h
theorem ev_some {α : Type} {g : Nat → Option α} {r : α} (h : ∀ k, g k = some r) : Ev g r := ⟨0, fun k _ => h k⟩
theorem wrap_ok {n : Int} (h : -9223372036854775808 ≤ n ∧ n ≤ 9223372036854775807) : wrap64 n = n := by unfold wrap64; omega
theorem rd_mid (pre : List Int) (x : Int) (suf : List Int) : rd (pre ++ x :: suf) (pre.length : Int) = x := by simp [rd]
theorem snoc_len (pre : List Int) (x : Int) : (((pre ++ [x]).length : Nat) : Int) = (pre.length : Int) + 1 := by simp
theorem mid_facts {l pre suf : List Int} {x : Int} (h : l = pre ++ x :: suf) (hl : l.length ≤ 35184372088832) :
    (pre.length : Int) < (l.length : Int) ∧ rd l (pre.length : Int) = x ∧ wrap64 ((pre.length : Int) + 1) = (((pre ++ [x]).length : Nat) : Int) ∧ l = (pre ++ [x]) ++ suf := by
  have hlen : l.length = pre.length + (suf.length + 1) := by rw [h]; simp
  refine ⟨by omega, by rw [h]; exact rd_mid pre x suf, ?_, by rw [h]; simp⟩
  rw [snoc_len]
  exact wrap_ok (by omega)
theorem end_facts {l pre : List Int} (h : l = pre ++ []) : l = pre ∧ ¬ (pre.length : Int) < (l.length : Int) := by
  rw [List.append_nil] at h
  subst h
  exact ⟨rfl, by omega⟩
/-- The marks m, m + 1, .. -/
def marks : Int → Nat → List Int
  | _, 0 => []
  | m, n + 1 => m :: marks (m + 1) n
theorem marks_length (m : Int) (n : Nat) : (marks m n).length = n := by
  induction n generalizing m with
  | zero => rfl
  | succ n ih => simp [marks, ih]

/-! ### The law's own helpers on slices of int -/
theorem toIntS_loop (l : List Int) (hl : l.length ≤ 35184372088832) : ∀ (suf pre : List Int), l = pre ++ suf → Ev (fun k => laws_toIntS.l0 k l (pre ++ List.replicate suf.length 0) (pre.length : Int)) l := by
  intro suf
  induction suf with
  | nil =>
    intro pre h
    obtain ⟨h1, h2⟩ := end_facts h
    refine ev_end fun k => ?_
    simp only [laws_toIntS.l0]
    rw [if_neg h2]
    simp [h1]
  | cons x suf ih =>
    intro pre h
    obtain ⟨h1, h2, h3, h4⟩ := mid_facts h hl
    refine Ev.step (fun k => ?_) (ih (pre ++ [x]) h4)
    simp only [laws_toIntS.l0]
    rw [if_pos h1, if_pos (by omega), if_pos (by simp; omega), h2, h3]
    congr 1
    simp [List.replicate_succ]
theorem toIntS_ev (l : List Int) (hl : l.length ≤ 35184372088832) : Ev (fun k => laws_toIntS.f k l) l := by
  refine Ev.congr (fun k => ?_) (toIntS_loop l hl l [] rfl)
  unfold laws_toIntS.f
  rw [if_pos (by omega), if_pos (by omega)]
  rfl

theorem eqIntS_loop (a b : List Int) (hl : a.length ≤ 35184372088832) : ∀ (s1 s2 p1 p2 : List Int), a = p1 ++ s1 → b = p2 ++ s2 → p1.length = p2.length → s1.length = s2.length → Ev (fun k => laws_eqIntS.l0 k a b (p1.length : Int)) (decide (s1 = s2)) := by
  intro s1
  induction s1 with
  | nil =>
    intro s2 p1 p2 ha hb hp hs
    obtain rfl : s2 = [] := List.eq_nil_of_length_eq_zero hs.symm
    obtain ⟨_, h2⟩ := end_facts ha
    refine ev_end fun k => ?_
    simp only [laws_eqIntS.l0]
    rw [if_neg h2]
    simp
  | cons x s1 ih =>
    intro s2 p1 p2 ha hb hp hs
    cases s2 with
    | nil => simp at hs
    | cons y s2 =>
    obtain ⟨h1, h2, h3, h4⟩ := mid_facts ha hl
    have hb1 : b.length = p2.length + (s2.length + 1) := by rw [hb]; simp
    have hb2 : rd b (p1.length : Int) = y := by rw [hp, hb]; exact rd_mid p2 y s2
    have hb3 : b = (p2 ++ [y]) ++ s2 := by rw [hb]; simp
    by_cases hxy : x = y
    · refine Ev.step (fun k => ?_) (ev_eq (ih s2 (p1 ++ [x]) (p2 ++ [y]) h4 hb3 (by simp [hp]) (by simpa using hs)) (by simp [hxy]))
      simp only [laws_eqIntS.l0]
      rw [if_pos h1, if_pos (by omega), if_pos (by omega), h2, hb2, if_pos hxy, h3]
    · refine ev_end fun k => ?_
      simp only [laws_eqIntS.l0]
      rw [if_pos h1, if_pos (by omega), if_pos (by omega), h2, hb2, if_neg hxy]
      simp [hxy]
theorem eqIntS_ev (a b : List Int) (hl : a.length ≤ 35184372088832) : Ev (fun k => laws_eqIntS.f k a b) (decide (a = b)) := by
  by_cases h : a.length = b.length
  · refine Ev.congr (fun k => ?_) (eqIntS_loop a b hl a b [] [] rfl rfl rfl h)
    unfold laws_eqIntS.f
    rw [if_pos (by omega)]
    rfl
  · refine ev_some fun k => ?_
    unfold laws_eqIntS.f
    rw [if_neg (by omega)]
    have : a ≠ b := fun e => h (by rw [e])
    simp [this]
theorem eqIntS_same (a : List Int) (hl : a.length ≤ 35184372088832) : Ev (fun k => laws_eqIntS.f k a a) true := ev_eq (eqIntS_ev a a hl) (by simp)


theorem markIntS_loop : ∀ (suf pre : List Int) (m : Int), (pre ++ suf).length ≤ 35184372088832 → 0 ≤ m → m + suf.length ≤ 70368744177664 → Ev (fun k => laws_markIntS.l0 k (pre ++ suf) m (pre.length : Int)) (m + suf.length, pre ++ marks m suf.length) := by
  intro suf
  induction suf with
  | nil =>
    intro pre m hl hm hb
    refine ev_end fun k => ?_
    simp only [laws_markIntS.l0]
    rw [if_neg (by simp)]
    simp [marks]
  | cons x suf ih =>
    intro pre m hl hm hb
    have hlen : (pre ++ x :: suf).length = pre.length + (suf.length + 1) := by simp
    have hc : ((x :: suf).length : Int) = (suf.length : Int) + 1 := by simp
    refine Ev.step (fun k => ?_) (ev_eq (ih (pre ++ [m]) (m + 1) (by simp at hl ⊢; omega) (by omega) (by omega)) (by simp [marks]; omega))
    simp only [laws_markIntS.l0]
    rw [if_pos (by omega), if_pos (by omega), wrap_ok (n := m + 1) (by omega), wrap_ok (n := (pre.length : Int) + 1) (by omega), snoc_len]
    congr 1
    simp
theorem markIntS_ev (l : List Int) (hl : l.length ≤ 35184372088832) : Ev (fun k => laws_markIntS.f k l 1) (1 + (l.length : Int), marks 1 l.length) := markIntS_loop l [] 1 hl (by omega) (by omega)

theorem heldIntS_loop (n : Nat) : ∀ (pre : List Int) (m : Int), pre.length + n ≤ 35184372088832 → 0 ≤ m → m + n ≤ 70368744177664 → Ev (fun k => laws_heldIntS.l0 k (pre ++ marks m n) m (pre.length : Int)) (m + n) := by
  induction n with
  | zero =>
    intro pre m hl hm hb
    refine ev_end fun k => ?_
    simp only [laws_heldIntS.l0]
    rw [if_neg (by simp [marks])]
    simp
  | succ n ih =>
    intro pre m hl hm hb
    refine Ev.step (fun k => ?_) (ev_eq (ih (pre ++ [m]) (m + 1) (by simp; omega) (by omega) (by omega)) (by omega))
    have e : pre ++ marks m (n + 1) = pre ++ (m) :: marks (m + 1) n := by simp [marks]
    have hlen : (pre ++ (m) :: marks (m + 1) n).length = pre.length + (n + 1) := by simp [marks_length]
    rw [e]
    simp only [laws_heldIntS.l0]
    rw [if_pos (by omega), if_pos (by omega), rd_mid, if_pos rfl, wrap_ok (n := m + 1) (by omega), wrap_ok (n := (pre.length : Int) + 1) (by omega), snoc_len]
    simp
theorem heldIntS_ev (n : Nat) (hl : n ≤ 35184372088832) : Ev (fun k => laws_heldIntS.f k (marks 1 n) 1) (1 + (n : Int)) := heldIntS_loop n [] 1 (by simpa using hl) (by omega) (by omega)


/-! ### HasCard and PlaceOf -/
theorem specHas_loop (l : List Int) (c : Int) (hl : l.length ≤ 35184372088832) : ∀ (suf pre : List Int), l = pre ++ suf → Ev (fun k => spec_HasCard.l0 k l c (pre.length : Int)) (decide (c ∈ suf)) := by
  intro suf
  induction suf with
  | nil =>
    intro pre h
    obtain ⟨_, h2⟩ := end_facts h
    refine ev_end fun k => ?_
    simp only [spec_HasCard.l0]
    rw [if_neg h2]
    simp
  | cons x suf ih =>
    intro pre h
    obtain ⟨h1, h2, h3, h4⟩ := mid_facts h hl
    by_cases hx : x = c
    · refine ev_end fun k => ?_
      simp only [spec_HasCard.l0]
      rw [if_pos h1, if_pos (by omega), h2, if_pos hx]
      simp [hx]
    · have hx' : ¬ c = x := fun e => hx e.symm
      refine Ev.step (fun k => ?_) (ev_eq (ih (pre ++ [x]) h4) (by simp [hx']))
      simp only [spec_HasCard.l0]
      rw [if_pos h1, if_pos (by omega), h2, if_neg hx, h3]
theorem specHas_ev (l : List Int) (c : Int) (hl : l.length ≤ 35184372088832) : Ev (fun k => spec_HasCard.f k l c) (decide (c ∈ l)) := specHas_loop l c hl l [] rfl
def placeP : List Int → Int → Int → Int
  | [], _, _ => -1
  | x :: s, c, i => if x = c then i else placeP s c (i + 1)
theorem place_mem (l : List Int) (c i : Int) (h : 0 ≤ i) : placeP l c i ≥ 0 ↔ c ∈ l := by
  induction l generalizing i with
  | nil => simp [placeP]
  | cons x s ih =>
    unfold placeP
    by_cases hx : x = c
    · rw [if_pos hx]; simp [hx, h]
    · rw [if_neg hx, ih (i + 1) (by omega)]
      have : ¬ c = x := fun e => hx e.symm
      simp [this]
theorem implPlace_loop (l : List Int) (c : Int) (hl : l.length ≤ 35184372088832) : ∀ (suf pre : List Int), l = pre ++ suf → Ev (fun k => impl_PlaceOf.l0 k c l (l.length : Int) (pre.length : Int)) (placeP suf c (pre.length : Int)) := by
  intro suf
  induction suf with
  | nil =>
    intro pre h
    obtain ⟨_, h2⟩ := end_facts h
    refine ev_end fun k => ?_
    simp only [impl_PlaceOf.l0]
    rw [if_neg h2]
    rfl
  | cons x suf ih =>
    intro pre h
    obtain ⟨h1, h2, h3, h4⟩ := mid_facts h hl
    by_cases hx : x = c
    · refine ev_end fun k => ?_
      simp only [impl_PlaceOf.l0]
      rw [if_pos h1, if_pos (by omega), if_pos h1, h2, if_pos hx]
      simp [placeP, hx]
    · refine Ev.step (fun k => ?_) (ev_eq (ih (pre ++ [x]) h4) (by rw [snoc_len]; simp [placeP, hx]))
      simp only [impl_PlaceOf.l0]
      rw [if_pos h1, if_pos (by omega), if_pos h1, h2, if_neg hx, h3]
theorem implPlace_ev (l : List Int) (c : Int) (hl : l.length ≤ 35184372088832) : Ev (fun k => impl_PlaceOf.f k l c) (placeP l c 0) := implPlace_loop l c hl l [] rfl

theorem implHas_ev (l : List Int) (c : Int) (hl : l.length ≤ 35184372088832) : Ev (fun k => impl_HasCard.f k l c) (decide (c ∈ l)) := by
  unfold impl_HasCard.f
  refine ev_bind (implPlace_ev l c hl) ?_
  refine ev_some fun _ => ?_
  congr 1
  rw [decide_eq_decide]
  exact place_mem l c 0 (by omega)

/-- The cards i, i + 1, .. (n of them) that are not in l. -/
def missFrom (l : List Int) : Int → Nat → List Int
  | _, 0 => []
  | i, n + 1 => if i ∈ l then missFrom l (i + 1) n else i :: missFrom l (i + 1) n
theorem miss_len (l : List Int) (n : Nat) : ∀ i, (missFrom l i n).length ≤ n := by
  induction n with
  | zero => intro i; simp [missFrom]
  | succ n ih =>
    intro i
    have := ih (i + 1)
    unfold missFrom
    split
    · omega
    · simp; omega

theorem specMiss_loop (l : List Int) (hl : l.length ≤ 35184372088832) : ∀ (n : Nat) (i : Int) (acc : List Int), 0 ≤ i → i + n = 52 → acc.length ≤ i → Ev (fun k => spec_Missing.l0 k l acc i) (acc ++ missFrom l i n) := by
  intro n
  induction n with
  | zero =>
    intro i acc h0 hi hacc
    refine ev_end fun k => ?_
    simp only [spec_Missing.l0]
    rw [if_neg (by omega)]
    simp [missFrom]
  | succ n ih =>
    intro i acc h0 hi hacc
    by_cases hm : i ∈ l
    · refine Ev.step (f := fun k => (spec_HasCard.f k l i).bind fun t => if t = true then spec_Missing.l0 k l acc (i + 1) else spec_Missing.l0 k l (acc ++ [i]) (i + 1)) (fun k => ?_) ?_
      · simp only [spec_Missing.l0]
        rw [if_pos (by omega), wrap_ok (by omega)]
        simp only [if_pos (show acc.length < 17592186044416 by omega)]
      · refine ev_bind (specHas_ev l i hl) ?_
        refine ev_pos (by simp [hm]) ?_
        exact ev_eq (ih (i + 1) acc (by omega) (by omega) (by omega)) (by simp [missFrom, hm])
    · refine Ev.step (f := fun k => (spec_HasCard.f k l i).bind fun t => if t = true then spec_Missing.l0 k l acc (i + 1) else spec_Missing.l0 k l (acc ++ [i]) (i + 1)) (fun k => ?_) ?_
      · simp only [spec_Missing.l0]
        rw [if_pos (by omega), wrap_ok (by omega)]
        simp only [if_pos (show acc.length < 17592186044416 by omega)]
      · refine ev_bind (specHas_ev l i hl) ?_
        refine ev_neg (by simp [hm]) ?_
        exact ev_eq (ih (i + 1) (acc ++ [i]) (by omega) (by omega) (by simp; omega)) (by simp [missFrom, hm])
theorem specMiss_ev (l : List Int) (hl : l.length ≤ 35184372088832) : Ev (fun k => spec_Missing.f k l) (missFrom l 0 52) := specMiss_loop l hl 52 0 [] (by omega) (by omega) (by simp)

theorem implMiss_loop (l : List Int) (hl : l.length ≤ 35184372088832) : ∀ (n : Nat) (i : Int) (acc : List Int), 0 ≤ i → i + n = 52 → acc.length ≤ i → Ev (fun k => impl_Missing.l0 k l acc i) (acc ++ missFrom l i n) := by
  intro n
  induction n with
  | zero =>
    intro i acc h0 hi hacc
    refine ev_end fun k => ?_
    simp only [impl_Missing.l0]
    rw [if_neg (by omega)]
    simp [missFrom]
  | succ n ih =>
    intro i acc h0 hi hacc
    by_cases hm : i ∈ l
    · refine Ev.step (f := fun k => (impl_HasCard.f k l i).bind fun t => if t = true then impl_Missing.l0 k l acc (i + 1) else impl_Missing.l0 k l (acc ++ [i]) (i + 1)) (fun k => ?_) ?_
      · simp only [impl_Missing.l0]
        rw [if_pos (by omega), wrap_ok (by omega)]
        simp only [if_pos (show acc.length < 17592186044416 by omega)]
      · refine ev_bind (implHas_ev l i hl) ?_
        refine ev_pos (by simp [hm]) ?_
        exact ev_eq (ih (i + 1) acc (by omega) (by omega) (by omega)) (by simp [missFrom, hm])
    · refine Ev.step (f := fun k => (impl_HasCard.f k l i).bind fun t => if t = true then impl_Missing.l0 k l acc (i + 1) else impl_Missing.l0 k l (acc ++ [i]) (i + 1)) (fun k => ?_) ?_
      · simp only [impl_Missing.l0]
        rw [if_pos (by omega), wrap_ok (by omega)]
        simp only [if_pos (show acc.length < 17592186044416 by omega)]
      · refine ev_bind (implHas_ev l i hl) ?_
        refine ev_neg (by simp [hm]) ?_
        exact ev_eq (ih (i + 1) (acc ++ [i]) (by omega) (by omega) (by simp; omega)) (by simp [missFrom, hm])
theorem implMiss_ev (l : List Int) (hl : l.length ≤ 35184372088832) : Ev (fun k => impl_Missing.f k l) (missFrom l 0 52) := implMiss_loop l hl 52 0 [] (by omega) (by omega) (by simp)

theorem FnExactMissing : laws_FnExactMissing.Pure := by
  intro l0 _ _ _
  refine Ev.rounds ?_
  by_cases hb : (l0.length : Int) > 1048576
  · exact ev_some fun k => by unfold laws_FnExactMissing.f; rw [if_pos hb]
  have hl : l0.length ≤ 1048576 := by omega
  have hw := miss_len l0 52 0
  unfold laws_FnExactMissing.f
  refine ev_neg hb ?_
  refine ev_bind (toIntS_ev l0 (by omega)) ?_
  refine ev_bind (specMiss_ev l0 (by omega)) ?_
  refine ev_bind (toIntS_ev l0 (by omega)) ?_
  refine ev_bind (implMiss_ev l0 (by omega)) ?_
  refine ev_bind (eqIntS_same _ (by omega)) ?_
  refine ev_pos rfl ?_
  refine ev_bind (toIntS_ev l0 (by omega)) ?_
  refine ev_bind (eqIntS_same l0 (by omega)) ?_
  refine ev_pos rfl ?_
  refine ev_bind (markIntS_ev l0 (by omega)) ?_
  refine ev_neg (by first | omega | (simp only []; omega)) ?_
  refine ev_bind (eqIntS_same _ (by omega)) ?_
  refine Ev.step (fun k => laws_FnExactMissing.j0.eq_2 _ _ _ _ k) ?_
  refine ev_neg (by simp) ?_
  refine ev_bind (markIntS_ev _ (by omega)) ?_
  refine ev_bind (heldIntS_ev _ (by omega)) ?_
  refine ev_neg (by first | omega | (simp only []; omega)) ?_
  refine ev_pos rfl ?_
  refine ev_bind (toIntS_ev l0 (by omega)) ?_
  refine ev_bind (implMiss_ev l0 (by omega)) ?_
  refine ev_bind (eqIntS_same _ (by omega)) ?_
  refine ev_pos rfl ?_
  refine ev_bind (heldIntS_ev _ (by omega)) ?_
  refine ev_neg (by first | omega | (simp only []; omega)) ?_
  refine ev_pos rfl ?_
  exact Ev.now true

end Go.Proofs.Ytbjecehiappdeab.Pure

/-- The words' fact, under the name by which the row asks for it. -/
theorem Go.Proofs.Ytbjecehiappdeab.PrintWords.sized_ints {H : Type} {enc : Go.TypeId × Go.Value → H} {P : Go.Program} {W : Go.World} {base : Nat} {spare : Nat → Bool} {held : Bool} {t e : Go.TypeId} {k : Go.IntKind} {a : Option Go.Addr} {len cap : Nat} {d : Go.DataW H} {ps : List Go.MemPlace} {ts : List Go.TypeId} {ds : List (Go.DataW H)} {j : Nat}
    (hsz : (Go.DataW.weightsEach P ts ds).all (· ≤ Go.reachBytes) = true) (ht : ts[j]? = some t) (hd : ds[j]? = some d) (hu : P.underlying t = some (.slice e)) (he : P.underlying e = some (.int k)) (hc : P.cellsOf e = 1) {B : Nat} (hB : P.bytesOf e = B)
    (h : Go.DataW.Trod enc P W base spare held t (.slice a len cap) d ps) : len * B ≤ 140737488351232 := Go.Proofs.YtbjecehiappdeabW.PrintWords.sized_ints hsz ht hd hu he hc hB h
