/- The law FnExactDeriveFromString returns true at every integer and every string: the program's DeriveFromString answers as the reference's. No condition. -/
import Derived.Test.YtbjecehiappdeabQFnExactDeriveFromStringx1
import Derived.OpenShut
namespace Go.Proofs.Ytbjecehiappdeab.Pure
open Go.RowKit Go.Proofs.Ytbjecehiappdeab.QFnExactDeriveFromString Go.Proofs.YtbjecehiappdeabW.PrintWords Go.Proofs.YtbjecehiappdeabW.PrintLast Go.Proofs.YtbjecehiappdeabW.PrintMore
set_option linter.unusedVariables false
set_option linter.unusedSimpArgs false

/-! ### Words on rounds and on lists -/
theorem ev_bind {α β : Type} {g : Nat → Option α} {f : Nat → α → Option β} {a : α} {r : β} (h : Ev g a) (k : Ev (fun n => f n a) r) : Ev (fun n => (g n).bind (f n)) r := Ev.bind h k
theorem ev_call {α β : Type} {o : Option α} {f : Nat → α → Option β} {a : α} {r : β} (h : o = some a) (k : Ev (fun n => f n a) r) : Ev (fun n => o.bind (f n)) r := by
  subst h; exact k
theorem ev_pos {α : Type} {c : Prop} [Decidable c] {f g : Nat → Option α} {r : α} (h : c) (e : Ev f r) : Ev (fun n => if c then f n else g n) r := by
  obtain ⟨K, hK⟩ := e
  exact ⟨K, fun n hn => by show (if c then f n else g n) = some r; rw [if_pos h]; exact hK n hn⟩
theorem ev_neg {α : Type} {c : Prop} [Decidable c] {f g : Nat → Option α} {r : α} (h : ¬ c) (e : Ev g r) : Ev (fun n => if c then f n else g n) r := by
  obtain ⟨K, hK⟩ := e
  exact ⟨K, fun n hn => by show (if c then f n else g n) = some r; rw [if_neg h]; exact hK n hn⟩
theorem ev_end {α : Type} {g : Nat → Option α} {r : α} (h : ∀ k, g (k + 1) = some r) : Ev g r := Ev.step (f := fun _ => some r) h (Ev.now r)
theorem ev_eq {α : Type} {g : Nat → Option α} {r r' : α} (h : Ev g r) (e : r = r') : Ev g r' := e ▸ h
theorem ev_some {α : Type} {g : Nat → Option α} {r : α} (h : ∀ k, g k = some r) : Ev g r := ⟨0, fun k _ => h k⟩
theorem wrap_ok {n : Int} (h : -9223372036854775808 ≤ n ∧ n ≤ 9223372036854775807) : wrap64 n = n := by unfold wrap64; omega
theorem rd_mid (pre : List Int) (x : Int) (suf : List Int) : rd (pre ++ x :: suf) (pre.length : Int) = x := by simp [rd]
theorem snoc_len (pre : List Int) (x : Int) : (((pre ++ [x]).length : Nat) : Int) = (pre.length : Int) + 1 := by simp
theorem mid_facts {l pre suf : List Int} {x : Int} (h : l = pre ++ x :: suf) (hl : l.length ≤ 35184372088832) :
    (pre.length : Int) < (l.length : Int) ∧ rd l (pre.length : Int) = x ∧ wrap64 ((pre.length : Int) + 1) = (((pre ++ [x]).length : Nat) : Int) ∧ l = (pre ++ [x]) ++ suf := by
  have hlen : l.length = pre.length + (suf.length + 1) := by rw [h]; simp
  refine ⟨by omega, by rw [h]; exact rd_mid pre x suf, ?_, by rw [h]; simp⟩
  rw [snoc_len]
  exact wrap_ok (by omega)
theorem end_facts {l pre : List Int} (h : l = pre ++ []) : l = pre ∧ ¬ (pre.length : Int) < (l.length : Int) := by
  rw [List.append_nil] at h
  subst h
  exact ⟨rfl, by omega⟩
/-- The marks m, m + 1, .. -/
def marks : Int → Nat → List Int
  | _, 0 => []
  | m, n + 1 => m :: marks (m + 1) n
theorem marks_length (m : Int) (n : Nat) : (marks m n).length = n := by
  induction n generalizing m with
  | zero => rfl
  | succ n ih => simp [marks, ih]

/-! ### Mod at Modulus -/
def modM (v : Int) : Int := Int.tmod (wrap64 ((Int.tmod v 2147483647) + 2147483647)) 2147483647
def hstep (d v : Int) : Int := Int.tmod (wrap64 ((wrap64 ((wrap64 (d * 1000003)) + modM v)) + 13)) 2147483647
def hashP (l : List Int) : Int := l.foldl hstep 11
theorem tmod_bounds (v m : Int) (hm : 0 < m) : -m < Int.tmod v m ∧ Int.tmod v m < m := by
  have h := Int.natAbs_tmod v m
  have h2 : v.natAbs % m.natAbs < m.natAbs := Nat.mod_lt _ (by omega)
  omega
theorem tmod_nonneg_bounds (v m : Int) (hm : 0 < m) (hv : 0 ≤ v) : 0 ≤ Int.tmod v m ∧ Int.tmod v m < m := by
  rw [Int.tmod_eq_emod_of_nonneg hv]
  exact ⟨Int.emod_nonneg v (by omega), Int.emod_lt_of_pos v hm⟩
theorem modM_range (v : Int) : 0 ≤ modM v ∧ modM v < 2147483647 := by
  unfold modM
  have h := tmod_bounds v 2147483647 (by omega)
  rw [wrap_ok (by omega)]
  exact tmod_nonneg_bounds _ _ (by omega) (by omega)
theorem hstep_plain (d v : Int) (h0 : 0 ≤ d) (h1 : d < 2147483647) : hstep d v = (d * 1000003 + modM v + 13) % 2147483647 := by
  have h := modM_range v
  unfold hstep
  rw [wrap_ok (n := d * 1000003) (by omega), wrap_ok (n := d * 1000003 + modM v) (by omega), wrap_ok (by omega), Int.tmod_eq_emod_of_nonneg (by omega)]
theorem hstep_range (d v : Int) (h0 : 0 ≤ d) (h1 : d < 2147483647) : 0 ≤ hstep d v ∧ hstep d v < 2147483647 := by
  rw [hstep_plain d v h0 h1]
  omega
theorem hash_range_from (l : List Int) : ∀ d, 0 ≤ d → d < 2147483647 → 0 ≤ l.foldl hstep d ∧ l.foldl hstep d < 2147483647 := by
  induction l with
  | nil => intro d h0 h1; exact ⟨h0, h1⟩
  | cons x l ih =>
    intro d h0 h1
    have h := hstep_range d x h0 h1
    exact ih _ h.1 h.2
theorem hash_range (l : List Int) : 0 ≤ hashP l ∧ hashP l < 2147483647 := hash_range_from l 11 (by omega) (by omega)

theorem spec_mod (v : Int) : spec_Mod.f v 2147483647 = some (modM v) := by
  unfold spec_Mod.f spec_l1In.f modM
  simp
theorem specHash_loop (l : List Int) (hl : l.length ≤ 17592186044416) : ∀ (suf pre : List Int) (d : Int), l = pre ++ suf → Ev (fun k => spec_Hash.l0 k l d (pre.length : Int)) (suf.foldl hstep d) := by
  intro suf
  induction suf with
  | nil =>
    intro pre d h
    obtain ⟨_, h2⟩ := end_facts h
    refine ev_end fun k => ?_
    simp only [spec_Hash.l0]
    rw [if_neg h2]
    rfl
  | cons x suf ih =>
    intro pre d h
    obtain ⟨h1, h2, h3, h4⟩ := mid_facts h (by omega)
    refine Ev.step (fun k => ?_) (ev_eq (ih (pre ++ [x]) (hstep d x) h4) rfl)
    simp only [spec_Hash.l0]
    rw [if_pos h1, if_pos (by omega), h2, h3, spec_mod]
    rfl
theorem specHash_ev (l : List Int) (hl : l.length ≤ 17592186044416) : Ev (fun k => spec_Hash.f k l) (hashP l) := specHash_loop l hl l [] 11 rfl

theorem impl_mod (v : Int) : impl_Mod.f v 2147483647 = some (modM v) := by
  unfold impl_Mod.f impl_InRange.f modM
  simp
theorem implHash_loop (l : List Int) (hl : l.length ≤ 17592186044416) : ∀ (suf pre : List Int) (d : Int), l = pre ++ suf → Ev (fun k => impl_Hash.l0 k d l (l.length : Int) (pre.length : Int)) (suf.foldl hstep d) := by
  intro suf
  induction suf with
  | nil =>
    intro pre d h
    obtain ⟨_, h2⟩ := end_facts h
    refine ev_end fun k => ?_
    simp only [impl_Hash.l0]
    rw [if_neg h2]
    rfl
  | cons x suf ih =>
    intro pre d h
    obtain ⟨h1, h2, h3, h4⟩ := mid_facts h (by omega)
    refine Ev.step (fun k => ?_) (ev_eq (ih (pre ++ [x]) (hstep d x) h4) rfl)
    simp only [impl_Hash.l0]
    rw [if_pos h1, if_pos (by omega), if_pos h1, h2, h3, impl_mod]
    rfl
theorem implHash_ev (l : List Int) (hl : l.length ≤ 17592186044416) : Ev (fun k => impl_Hash.f k l) (hashP l) := implHash_loop l hl l [] 11 rfl

def keyedP (key : Int) (l : List Int) : Int := hashP (key :: (l ++ [key]))
theorem keyed_range (key : Int) (l : List Int) : 0 ≤ keyedP key l ∧ keyedP key l < 2147483647 := hash_range _

theorem specKeyed_ev (key : Int) (l : List Int) (hl : l.length ≤ 17592186044000) : Ev (fun k => spec_KeyedHash.f k key l) (keyedP key l) := by
  unfold spec_KeyedHash.f
  refine ev_call rfl ?_
  refine ev_pos (by simp; omega) ?_
  refine ev_call rfl ?_
  refine ev_pos (by simp; omega) ?_
  refine ev_bind (specHash_ev _ (by simp; omega)) ?_
  exact ev_some fun _ => by simp [keyedP]

theorem implKeyed_ev (key : Int) (l : List Int) (hl : l.length ≤ 17592186044000) : Ev (fun k => impl_KeyedHash.f k key l) (keyedP key l) := by
  unfold impl_KeyedHash.f
  refine ev_call rfl ?_
  refine ev_pos (by simp; omega) ?_
  refine ev_call rfl ?_
  refine ev_pos (by simp; omega) ?_
  refine ev_bind (implHash_ev _ (by simp; omega)) ?_
  exact ev_some fun _ => by simp [keyedP]

theorem implB2I_loop (l : List Int) (hl : l.length ≤ 1048576) (hw : ∀ x ∈ l, 0 ≤ x ∧ x ≤ 255) : ∀ (suf pre acc : List Int), l = pre ++ suf → acc.length = pre.length + 1 → Ev (fun k => impl_BytesToInts.l0 k acc l (l.length : Int) (pre.length : Int)) (acc ++ suf) := by
  intro suf
  induction suf with
  | nil =>
    intro pre acc h hacc
    obtain ⟨_, h2⟩ := end_facts h
    refine ev_end fun k => ?_
    simp only [impl_BytesToInts.l0]
    rw [if_neg h2]
    simp
  | cons x suf ih =>
    intro pre acc h hacc
    obtain ⟨h1, h2, h3, h4⟩ := mid_facts h (by omega)
    have hx := hw x (by rw [h]; simp)
    refine Ev.step (fun k => ?_) (ev_eq (ih (pre ++ [x]) (acc ++ [x]) h4 (by simp [hacc])) (by simp))
    simp only [impl_BytesToInts.l0]
    rw [if_pos h1, if_pos (by omega), if_pos h1, if_pos (by omega), h2, h3, wrap_ok (n := x) (by omega)]
theorem implB2I_ev (l : List Int) (hl : l.length ≤ 1048576) (hw : ∀ x ∈ l, 0 ≤ x ∧ x ≤ 255) : Ev (fun k => impl_BytesToInts.f k l) ((l.length : Int) :: l) := implB2I_loop l hl hw l [] [(l.length : Int)] rfl rfl

theorem specB2I_loop (l : List Int) (hl : l.length ≤ 1048576) (hw : ∀ x ∈ l, 0 ≤ x ∧ x ≤ 255) : ∀ (suf pre acc : List Int), l = pre ++ suf → acc.length = pre.length + 1 → Ev (fun k => spec_BytesToInts.l0 k l acc (pre.length : Int)) (acc ++ suf) := by
  intro suf
  induction suf with
  | nil =>
    intro pre acc h hacc
    obtain ⟨_, h2⟩ := end_facts h
    refine ev_end fun k => ?_
    simp only [spec_BytesToInts.l0]
    rw [if_neg h2]
    simp
  | cons x suf ih =>
    intro pre acc h hacc
    obtain ⟨h1, h2, h3, h4⟩ := mid_facts h (by omega)
    have hx := hw x (by rw [h]; simp)
    refine Ev.step (fun k => ?_) (ev_eq (ih (pre ++ [x]) (acc ++ [x]) h4 (by simp [hacc])) (by simp))
    simp only [spec_BytesToInts.l0]
    rw [if_pos h1, if_pos (by omega), if_pos (by omega), h2, h3, wrap_ok (n := x) (by omega)]
theorem specB2I_ev (l : List Int) (hl : l.length ≤ 1048576) (hw : ∀ x ∈ l, 0 ≤ x ∧ x ≤ 255) : Ev (fun k => spec_BytesToInts.f k l) ((l.length : Int) :: l) := specB2I_loop l hl hw l [] [(l.length : Int)] rfl rfl

theorem bytes_byte (s : ByteArray) : ∀ x ∈ bytesOf s, 0 ≤ x ∧ x ≤ 255 := by
  intro x hx
  obtain ⟨b, _, rfl⟩ := List.mem_map.1 hx
  have := b.toNat_lt
  omega
def derivedP (key : Int) (s : ByteArray) : Int := if keyedP key ((s.size : Int) :: bytesOf s) = 0 then 1 else keyedP key ((s.size : Int) :: bytesOf s)
theorem specDerived_ev (key : Int) (s : ByteArray) (hs : s.size ≤ 1048576) : Ev (fun k => spec_DeriveFromString.f k key s) (derivedP key s) := by
  unfold spec_DeriveFromString.f
  have hlen := bytesOf_length s
  refine ev_pos (by omega) ?_
  refine ev_bind (specB2I_ev (bytesOf s) (by omega) (bytes_byte s)) ?_
  rw [hlen]
  refine ev_bind (specKeyed_ev key _ (by simp [hlen]; omega)) ?_
  have hr := keyed_range key ((s.size : Int) :: bytesOf s)
  refine ev_call (a := derivedP key s) ?_ (Ev.now _)
  unfold spec_Max.f derivedP
  by_cases h : keyedP key ((s.size : Int) :: bytesOf s) = 0
  · rw [if_pos h, if_neg (by omega)]
  · rw [if_neg h]
    by_cases h1 : keyedP key ((s.size : Int) :: bytesOf s) > 1
    · rw [if_pos h1]
    · rw [if_neg h1, show keyedP key ((s.size : Int) :: bytesOf s) = 1 by omega]
theorem implDerived_ev (key : Int) (s : ByteArray) (hs : s.size ≤ 1048576) : Ev (fun k => impl_DeriveFromString.f k key s) (derivedP key s) := by
  unfold impl_DeriveFromString.f
  have hlen := bytesOf_length s
  refine ev_pos (by omega) ?_
  refine ev_bind (implB2I_ev (bytesOf s) (by omega) (bytes_byte s)) ?_
  rw [hlen]
  refine ev_bind (implKeyed_ev key _ (by simp [hlen]; omega)) ?_
  unfold derivedP
  by_cases h : keyedP key ((s.size : Int) :: bytesOf s) = 0
  · exact ev_pos h (ev_eq (Ev.now 1) (if_pos h).symm)
  · exact ev_neg h (ev_eq (Ev.now _) (if_neg h).symm)
theorem FnExactDeriveFromString : laws_FnExactDeriveFromString.Pure := by
  intro a0 a1 _ _
  refine Ev.rounds ?_
  by_cases hb : (a1.size : Int) > 1048576
  · exact ev_some fun k => by unfold laws_FnExactDeriveFromString.f; rw [if_pos hb]
  unfold laws_FnExactDeriveFromString.f
  refine ev_neg hb ?_
  refine ev_bind (specDerived_ev a0 a1 (by omega)) ?_
  refine ev_bind (implDerived_ev a0 a1 (by omega)) ?_
  exact ev_pos rfl (Ev.now true)

end Go.Proofs.Ytbjecehiappdeab.Pure
