/- The law FnExactCut returns true at every list of integers and every integer: the program's Cut answers as the reference's, leaves its argument and shares no memory. No condition. -/
import Derived.Test.YtbjecehiappdeaaQFnExactCutx2
import Derived.Test.YtbjecehiappdeaaWSized
namespace Go.Proofs.Ytbjecehiappdeaa.Pure
open Go.RowKit Go.Proofs.Ytbjecehiappdeaa.QFnExactCut Go.Proofs.YtbjecehiappdeaaW.PrintWords Go.Proofs.YtbjecehiappdeaaW.PrintLast Go.Proofs.YtbjecehiappdeaaW.PrintMore
set_option linter.unusedVariables false
set_option linter.unusedSimpArgs false

/-! ### Words on rounds and on lists -/
theorem ev_bind {α β : Type} {g : Nat → Option α} {f : Nat → α → Option β} {a : α} {r : β} (h : Ev g a) (k : Ev (fun n => f n a) r) : Ev (fun n => (g n).bind (f n)) r := Ev.bind h k
theorem ev_call {α β : Type} {o : Option α} {f : Nat → α → Option β} {a : α} {r : β} (h : o = some a) (k : Ev (fun n => f n a) r) : Ev (fun n => o.bind (f n)) r := by
  subst h; exact k
theorem ev_pos {α : Type} {c : Prop} [Decidable c] {f g : Nat → Option α} {r : α} (h : c) (e : Ev f r) : Ev (fun n => if c then f n else g n) r := by
  obtain ⟨K, hK⟩ := e
  exact ⟨K, fun n hn => by show (if c then f n else g n) = some r; rw [if_pos h]; exact hK n hn⟩
theorem ev_neg {α : Type} {c : Prop} [Decidable c] {f g : Nat → Option α} {r : α} (h : ¬ c) (e : Ev g r) : Ev (fun n => if c then f n else g n) r := by
  obtain ⟨K, hK⟩ := e
  exact ⟨K, fun n hn => by show (if c then f n else g n) = some r; rw [if_neg h]; exact hK n hn⟩
theorem ev_end {α : Type} {g : Nat → Option α} {r : α} (h : ∀ k, g (k + 1) = some r) : Ev g r := Ev.step (f := fun _ => some r) h (Ev.now r)
theorem ev_eq {α : Type} {g : Nat → Option α} {r r' : α} (h : Ev g r) (e : r = r') : Ev g r' := e ▸ h
theorem ev_some {α : Type} {g : Nat → Option α} {r : α} (h : ∀ k, g k = some r) : Ev g r := ⟨0, fun k _ => h k⟩
theorem wrap_ok {n : Int} (h : -9223372036854775808 ≤ n ∧ n ≤ 9223372036854775807) : wrap64 n = n := by unfold wrap64; omega
theorem rd_mid (pre : List Int) (x : Int) (suf : List Int) : rd (pre ++ x :: suf) (pre.length : Int) = x := by simp [rd]
theorem snoc_len (pre : List Int) (x : Int) : (((pre ++ [x]).length : Nat) : Int) = (pre.length : Int) + 1 := by simp
theorem mid_facts {l pre suf : List Int} {x : Int} (h : l = pre ++ x :: suf) (hl : l.length ≤ 35184372088832) :
    (pre.length : Int) < (l.length : Int) ∧ rd l (pre.length : Int) = x ∧ wrap64 ((pre.length : Int) + 1) = (((pre ++ [x]).length : Nat) : Int) ∧ l = (pre ++ [x]) ++ suf := by
  have hlen : l.length = pre.length + (suf.length + 1) := by rw [h]; simp
  refine ⟨by omega, by rw [h]; exact rd_mid pre x suf, ?_, by rw [h]; simp⟩
  rw [snoc_len]
  exact wrap_ok (by omega)
theorem end_facts {l pre : List Int} (h : l = pre ++ []) : l = pre ∧ ¬ (pre.length : Int) < (l.length : Int) := by
  rw [List.append_nil] at h
  subst h
  exact ⟨rfl, by omega⟩
/-- The marks m, m + 1, .. -/
def marks : Int → Nat → List Int
  | _, 0 => []
  | m, n + 1 => m :: marks (m + 1) n
theorem marks_length (m : Int) (n : Nat) : (marks m n).length = n := by
  induction n generalizing m with
  | zero => rfl
  | succ n ih => simp [marks, ih]

/-! ### The law's own helpers on slices of int -/
theorem toIntS_loop (l : List Int) (hl : l.length ≤ 35184372088832) : ∀ (suf pre : List Int), l = pre ++ suf → Ev (fun k => laws_toIntS.l0 k l (pre ++ List.replicate suf.length 0) (pre.length : Int)) l := by
  intro suf
  induction suf with
  | nil =>
    intro pre h
    obtain ⟨h1, h2⟩ := end_facts h
    refine ev_end fun k => ?_
    simp only [laws_toIntS.l0]
    rw [if_neg h2]
    simp [h1]
  | cons x suf ih =>
    intro pre h
    obtain ⟨h1, h2, h3, h4⟩ := mid_facts h hl
    refine Ev.step (fun k => ?_) (ih (pre ++ [x]) h4)
    simp only [laws_toIntS.l0]
    rw [if_pos h1, if_pos (by omega), if_pos (by simp; omega), h2, h3]
    congr 1
    simp [List.replicate_succ]
theorem toIntS_ev (l : List Int) (hl : l.length ≤ 35184372088832) : Ev (fun k => laws_toIntS.f k l) l := by
  refine Ev.congr (fun k => ?_) (toIntS_loop l hl l [] rfl)
  unfold laws_toIntS.f
  rw [if_pos (by omega), if_pos (by omega)]
  rfl

theorem eqIntS_loop (a b : List Int) (hl : a.length ≤ 35184372088832) : ∀ (s1 s2 p1 p2 : List Int), a = p1 ++ s1 → b = p2 ++ s2 → p1.length = p2.length → s1.length = s2.length → Ev (fun k => laws_eqIntS.l0 k a b (p1.length : Int)) (decide (s1 = s2)) := by
  intro s1
  induction s1 with
  | nil =>
    intro s2 p1 p2 ha hb hp hs
    obtain rfl : s2 = [] := List.eq_nil_of_length_eq_zero hs.symm
    obtain ⟨_, h2⟩ := end_facts ha
    refine ev_end fun k => ?_
    simp only [laws_eqIntS.l0]
    rw [if_neg h2]
    simp
  | cons x s1 ih =>
    intro s2 p1 p2 ha hb hp hs
    cases s2 with
    | nil => simp at hs
    | cons y s2 =>
    obtain ⟨h1, h2, h3, h4⟩ := mid_facts ha hl
    have hb1 : b.length = p2.length + (s2.length + 1) := by rw [hb]; simp
    have hb2 : rd b (p1.length : Int) = y := by rw [hp, hb]; exact rd_mid p2 y s2
    have hb3 : b = (p2 ++ [y]) ++ s2 := by rw [hb]; simp
    by_cases hxy : x = y
    · refine Ev.step (fun k => ?_) (ev_eq (ih s2 (p1 ++ [x]) (p2 ++ [y]) h4 hb3 (by simp [hp]) (by simpa using hs)) (by simp [hxy]))
      simp only [laws_eqIntS.l0]
      rw [if_pos h1, if_pos (by omega), if_pos (by omega), h2, hb2, if_pos hxy, h3]
    · refine ev_end fun k => ?_
      simp only [laws_eqIntS.l0]
      rw [if_pos h1, if_pos (by omega), if_pos (by omega), h2, hb2, if_neg hxy]
      simp [hxy]
theorem eqIntS_ev (a b : List Int) (hl : a.length ≤ 35184372088832) : Ev (fun k => laws_eqIntS.f k a b) (decide (a = b)) := by
  by_cases h : a.length = b.length
  · refine Ev.congr (fun k => ?_) (eqIntS_loop a b hl a b [] [] rfl rfl rfl h)
    unfold laws_eqIntS.f
    rw [if_pos (by omega)]
    rfl
  · refine ev_some fun k => ?_
    unfold laws_eqIntS.f
    rw [if_neg (by omega)]
    have : a ≠ b := fun e => h (by rw [e])
    simp [this]
theorem eqIntS_same (a : List Int) (hl : a.length ≤ 35184372088832) : Ev (fun k => laws_eqIntS.f k a a) true := ev_eq (eqIntS_ev a a hl) (by simp)


theorem markIntS_loop : ∀ (suf pre : List Int) (m : Int), (pre ++ suf).length ≤ 35184372088832 → 0 ≤ m → m + suf.length ≤ 70368744177664 → Ev (fun k => laws_markIntS.l0 k (pre ++ suf) m (pre.length : Int)) (m + suf.length, pre ++ marks m suf.length) := by
  intro suf
  induction suf with
  | nil =>
    intro pre m hl hm hb
    refine ev_end fun k => ?_
    simp only [laws_markIntS.l0]
    rw [if_neg (by simp)]
    simp [marks]
  | cons x suf ih =>
    intro pre m hl hm hb
    have hlen : (pre ++ x :: suf).length = pre.length + (suf.length + 1) := by simp
    have hc : ((x :: suf).length : Int) = (suf.length : Int) + 1 := by simp
    refine Ev.step (fun k => ?_) (ev_eq (ih (pre ++ [m]) (m + 1) (by simp at hl ⊢; omega) (by omega) (by omega)) (by simp [marks]; omega))
    simp only [laws_markIntS.l0]
    rw [if_pos (by omega), if_pos (by omega), wrap_ok (n := m + 1) (by omega), wrap_ok (n := (pre.length : Int) + 1) (by omega), snoc_len]
    congr 1
    simp
theorem markIntS_ev (l : List Int) (hl : l.length ≤ 35184372088832) : Ev (fun k => laws_markIntS.f k l 1) (1 + (l.length : Int), marks 1 l.length) := markIntS_loop l [] 1 hl (by omega) (by omega)
theorem markIntS_from (l : List Int) (m : Int) (hl : l.length ≤ 35184372088832) (h0 : 0 ≤ m) (hm : m ≤ 35184372088832) : Ev (fun k => laws_markIntS.f k l m) (m + (l.length : Int), marks m l.length) := markIntS_loop l [] m hl h0 (by omega)

theorem heldIntS_loop (n : Nat) : ∀ (pre : List Int) (m : Int), pre.length + n ≤ 35184372088832 → 0 ≤ m → m + n ≤ 70368744177664 → Ev (fun k => laws_heldIntS.l0 k (pre ++ marks m n) m (pre.length : Int)) (m + n) := by
  induction n with
  | zero =>
    intro pre m hl hm hb
    refine ev_end fun k => ?_
    simp only [laws_heldIntS.l0]
    rw [if_neg (by simp [marks])]
    simp
  | succ n ih =>
    intro pre m hl hm hb
    refine Ev.step (fun k => ?_) (ev_eq (ih (pre ++ [m]) (m + 1) (by simp; omega) (by omega) (by omega)) (by omega))
    have e : pre ++ marks m (n + 1) = pre ++ (m) :: marks (m + 1) n := by simp [marks]
    have hlen : (pre ++ (m) :: marks (m + 1) n).length = pre.length + (n + 1) := by simp [marks_length]
    rw [e]
    simp only [laws_heldIntS.l0]
    rw [if_pos (by omega), if_pos (by omega), rd_mid, if_pos rfl, wrap_ok (n := m + 1) (by omega), wrap_ok (n := (pre.length : Int) + 1) (by omega), snoc_len]
    simp
theorem heldIntS_ev (n : Nat) (hl : n ≤ 35184372088832) : Ev (fun k => laws_heldIntS.f k (marks 1 n) 1) (1 + (n : Int)) := heldIntS_loop n [] 1 (by simpa using hl) (by omega) (by omega)


def cutP (l : List Int) (a : Int) : List Int := if 0 ≤ a ∧ a ≤ (l.length : Int) then l.drop a.toNat ++ l.take a.toNat else l
theorem cutP_len (l : List Int) (a : Int) : (cutP l a).length = l.length := by
  unfold cutP
  split
  · rename_i h; simp; omega
  · rfl
theorem spec_cut (l : List Int) (a : Int) (hl : l.length ≤ 1048576) : spec_Cut.f l a = some (cutP l a) := by
  unfold spec_Cut.f spec_l1In.f cutP
  by_cases h1 : 0 ≤ a
  · by_cases h2 : a ≤ (l.length : Int)
    · have h3 : (l.drop a.toNat).length < 17592186044416 := by simp; omega
      have h4 : (l.drop a.toNat).length + (l.take a.toNat).length < 17592186044416 := by simp; omega
      simp only [ge_iff_le, if_pos h1, h2, decide_true, Option.bind_some, if_true, List.length_nil, Nat.zero_add, List.nil_append, if_pos h3, if_pos h4, h1, and_self]
    · have h3 : l.length < 17592186044416 := by omega
      simp [h1, h2, h3]
  · have h3 : l.length < 17592186044416 := by omega
    simp [h1, h3]
theorem copy_of (l : List Int) (hl : l.length < 17592186044416) : impl_copyOf.f l = some l := by
  unfold impl_copyOf.f
  simp [hl]
theorem impl_cut (l : List Int) (a : Int) (hl : l.length ≤ 1048576) : impl_Cut.f l a = some (cutP l a) := by
  unfold impl_Cut.f impl_InRange.f cutP
  by_cases h1 : 0 ≤ a
  · by_cases h2 : a ≤ (l.length : Int)
    · have h3 : (l.drop a.toNat).length < 17592186044416 := by simp; omega
      have h4 : (l.drop a.toNat).length + (l.take a.toNat).length < 17592186044416 := by simp; omega
      simp only [if_pos h1, h2, decide_true, Option.bind_some, if_true, copy_of _ h3, if_pos h4, h1, and_self]
    · simp [h1, h2, copy_of l (by omega)]
  · simp [h1, copy_of l (by omega)]
theorem FnExactCut : laws_FnExactCut.Pure := by
  intro l0 a1 _ _ _ _
  refine Ev.rounds ?_
  by_cases hb : (l0.length : Int) > 1048576
  · exact ev_some fun k => by unfold laws_FnExactCut.f; rw [if_pos hb]
  have hl : l0.length ≤ 1048576 := by omega
  have hw := cutP_len l0 a1
  unfold laws_FnExactCut.f
  refine ev_neg hb ?_
  refine ev_bind (toIntS_ev l0 (by omega)) ?_
  refine ev_call (spec_cut l0 a1 hl) ?_
  refine ev_bind (toIntS_ev l0 (by omega)) ?_
  refine ev_call (impl_cut l0 a1 hl) ?_
  refine ev_bind (eqIntS_same _ (by omega)) ?_
  refine ev_pos rfl ?_
  refine ev_bind (toIntS_ev l0 (by omega)) ?_
  refine ev_bind (eqIntS_same l0 (by omega)) ?_
  refine ev_pos rfl ?_
  refine ev_bind (markIntS_ev l0 (by omega)) ?_
  refine ev_neg (by first | omega | (simp only []; omega)) ?_
  refine ev_bind (eqIntS_same _ (by omega)) ?_
  refine Ev.step (fun k => laws_FnExactCut.j0.eq_2 _ _ _ _ _ k) ?_
  refine ev_neg (by simp) ?_
  refine ev_bind (markIntS_ev _ (by omega)) ?_
  refine ev_bind (heldIntS_ev _ (by omega)) ?_
  refine ev_neg (by first | omega | (simp only []; omega)) ?_
  refine ev_pos rfl ?_
  refine ev_bind (toIntS_ev l0 (by omega)) ?_
  refine ev_call (impl_cut l0 a1 hl) ?_
  refine ev_bind (eqIntS_same _ (by omega)) ?_
  refine ev_pos rfl ?_
  refine ev_bind (heldIntS_ev _ (by omega)) ?_
  refine ev_neg (by first | omega | (simp only []; omega)) ?_
  refine ev_pos rfl ?_
  exact Ev.now true

end Go.Proofs.Ytbjecehiappdeaa.Pure

/-- The words' fact, under the name by which the row asks for it. -/
theorem Go.Proofs.Ytbjecehiappdeaa.PrintWords.sized_ints {H : Type} {enc : Go.TypeId × Go.Value → H} {P : Go.Program} {W : Go.World} {base : Nat} {spare : Nat → Bool} {held : Bool} {t e : Go.TypeId} {k : Go.IntKind} {a : Option Go.Addr} {len cap : Nat} {d : Go.DataW H} {ps : List Go.MemPlace} {ts : List Go.TypeId} {ds : List (Go.DataW H)} {j : Nat}
    (hsz : (Go.DataW.weightsEach P ts ds).all (· ≤ Go.reachBytes) = true) (ht : ts[j]? = some t) (hd : ds[j]? = some d) (hu : P.underlying t = some (.slice e)) (he : P.underlying e = some (.int k)) (hc : P.cellsOf e = 1) {B : Nat} (hB : P.bytesOf e = B)
    (h : Go.DataW.Trod enc P W base spare held t (.slice a len cap) d ps) : len * B ≤ 140737488351232 := Go.Proofs.YtbjecehiappdeaaW.PrintWords.sized_ints hsz ht hd hu he hc hB h
