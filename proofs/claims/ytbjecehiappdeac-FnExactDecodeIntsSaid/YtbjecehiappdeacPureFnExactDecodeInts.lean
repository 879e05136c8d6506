/- The law FnExactDecodeInts returns true at every list of bytes and every two integers: the program's DecodeInts answers as the reference's, leaves its argument and shares no memory. No condition. -/
import Derived.Test.YtbjecehiappdeacPFnExactDecodeIntsx3
import Derived.OpenShut
import Derived.Test.YtbjecehiappdeacWSized
namespace Go.Proofs.Ytbjecehiappdeac.Pure
open Go.RowKit Go.Proofs.Ytbjecehiappdeac.PFnExactDecodeInts Go.Proofs.YtbjecehiappdeacW.PrintWords Go.Proofs.YtbjecehiappdeacW.PrintLast Go.Proofs.YtbjecehiappdeacW.PrintMore
set_option linter.unusedVariables false
set_option linter.unusedSimpArgs false

/-! ### Words on rounds and on lists -/
theorem ev_bind {α β : Type} {g : Nat → Option α} {f : Nat → α → Option β} {a : α} {r : β} (h : Ev g a) (k : Ev (fun n => f n a) r) : Ev (fun n => (g n).bind (f n)) r := Ev.bind h k
theorem ev_call {α β : Type} {o : Option α} {f : Nat → α → Option β} {a : α} {r : β} (h : o = some a) (k : Ev (fun n => f n a) r) : Ev (fun n => o.bind (f n)) r := by
  subst h; exact k
theorem ev_pos {α : Type} {c : Prop} [Decidable c] {f g : Nat → Option α} {r : α} (h : c) (e : Ev f r) : Ev (fun n => if c then f n else g n) r := by
  obtain ⟨K, hK⟩ := e
  exact ⟨K, fun n hn => by show (if c then f n else g n) = some r; rw [if_pos h]; exact hK n hn⟩
theorem ev_neg {α : Type} {c : Prop} [Decidable c] {f g : Nat → Option α} {r : α} (h : ¬ c) (e : Ev g r) : Ev (fun n => if c then f n else g n) r := by
  obtain ⟨K, hK⟩ := e
  exact ⟨K, fun n hn => by show (if c then f n else g n) = some r; rw [if_neg h]; exact hK n hn⟩
theorem ev_end {α : Type} {g : Nat → Option α} {r : α} (h : ∀ k, g (k + 1) = some r) : Ev g r := Ev.step (f := fun _ => some r) h (Ev.now r)
theorem ev_eq {α : Type} {g : Nat → Option α} {r r' : α} (h : Ev g r) (e : r = r') : Ev g r' := e ▸ h
theorem ev_some {α : Type} {g : Nat → Option α} {r : α} (h : ∀ k, g k = some r) : Ev g r := ⟨0, fun k _ => h k⟩
theorem wrap_ok {n : Int} (h : -9223372036854775808 ≤ n ∧ n ≤ 9223372036854775807) : wrap64 n = n := by unfold wrap64; omega
theorem rd_mid (pre : List Int) (x : Int) (suf : List Int) : rd (pre ++ x :: suf) (pre.length : Int) = x := by simp [rd]
theorem snoc_len (pre : List Int) (x : Int) : (((pre ++ [x]).length : Nat) : Int) = (pre.length : Int) + 1 := by simp
theorem mid_facts {l pre suf : List Int} {x : Int} (h : l = pre ++ x :: suf) (hl : l.length ≤ 35184372088832) :
    (pre.length : Int) < (l.length : Int) ∧ rd l (pre.length : Int) = x ∧ wrap64 ((pre.length : Int) + 1) = (((pre ++ [x]).length : Nat) : Int) ∧ l = (pre ++ [x]) ++ suf := by
  have hlen : l.length = pre.length + (suf.length + 1) := by rw [h]; simp
  refine ⟨by omega, by rw [h]; exact rd_mid pre x suf, ?_, by rw [h]; simp⟩
  rw [snoc_len]
  exact wrap_ok (by omega)
theorem end_facts {l pre : List Int} (h : l = pre ++ []) : l = pre ∧ ¬ (pre.length : Int) < (l.length : Int) := by
  rw [List.append_nil] at h
  subst h
  exact ⟨rfl, by omega⟩
/-- The marks m, m + 1, .. -/
def marks : Int → Nat → List Int
  | _, 0 => []
  | m, n + 1 => m :: marks (m + 1) n
theorem marks_length (m : Int) (n : Nat) : (marks m n).length = n := by
  induction n generalizing m with
  | zero => rfl
  | succ n ih => simp [marks, ih]

/-! ### The law's own helpers on slices of byte -/
theorem toByteS_loop (l : List Int) (hl : l.length ≤ 35184372088832) : ∀ (suf pre : List Int), l = pre ++ suf → Ev (fun k => laws_toByteS.l0 k l (pre ++ List.replicate suf.length 0) (pre.length : Int)) l := by
  intro suf
  induction suf with
  | nil =>
    intro pre h
    obtain ⟨h1, h2⟩ := end_facts h
    refine ev_end fun k => ?_
    simp only [laws_toByteS.l0]
    rw [if_neg h2]
    simp [h1]
  | cons x suf ih =>
    intro pre h
    obtain ⟨h1, h2, h3, h4⟩ := mid_facts h hl
    refine Ev.step (fun k => ?_) (ih (pre ++ [x]) h4)
    simp only [laws_toByteS.l0]
    rw [if_pos h1, if_pos (by omega), if_pos (by simp; omega), h2, h3]
    congr 1
    simp [List.replicate_succ]
theorem toByteS_ev (l : List Int) (hl : l.length ≤ 35184372088832) : Ev (fun k => laws_toByteS.f k l) l := by
  refine Ev.congr (fun k => ?_) (toByteS_loop l hl l [] rfl)
  unfold laws_toByteS.f
  rw [if_pos (by omega), if_pos (by omega)]
  rfl

theorem eqByteS_loop (a b : List Int) (hl : a.length ≤ 35184372088832) : ∀ (s1 s2 p1 p2 : List Int), a = p1 ++ s1 → b = p2 ++ s2 → p1.length = p2.length → s1.length = s2.length → Ev (fun k => laws_eqByteS.l0 k a b (p1.length : Int)) (decide (s1 = s2)) := by
  intro s1
  induction s1 with
  | nil =>
    intro s2 p1 p2 ha hb hp hs
    obtain rfl : s2 = [] := List.eq_nil_of_length_eq_zero hs.symm
    obtain ⟨_, h2⟩ := end_facts ha
    refine ev_end fun k => ?_
    simp only [laws_eqByteS.l0]
    rw [if_neg h2]
    simp
  | cons x s1 ih =>
    intro s2 p1 p2 ha hb hp hs
    cases s2 with
    | nil => simp at hs
    | cons y s2 =>
    obtain ⟨h1, h2, h3, h4⟩ := mid_facts ha hl
    have hb1 : b.length = p2.length + (s2.length + 1) := by rw [hb]; simp
    have hb2 : rd b (p1.length : Int) = y := by rw [hp, hb]; exact rd_mid p2 y s2
    have hb3 : b = (p2 ++ [y]) ++ s2 := by rw [hb]; simp
    by_cases hxy : x = y
    · refine Ev.step (fun k => ?_) (ev_eq (ih s2 (p1 ++ [x]) (p2 ++ [y]) h4 hb3 (by simp [hp]) (by simpa using hs)) (by simp [hxy]))
      simp only [laws_eqByteS.l0]
      rw [if_pos h1, if_pos (by omega), if_pos (by omega), h2, hb2, if_pos hxy, h3]
    · refine ev_end fun k => ?_
      simp only [laws_eqByteS.l0]
      rw [if_pos h1, if_pos (by omega), if_pos (by omega), h2, hb2, if_neg hxy]
      simp [hxy]
theorem eqByteS_ev (a b : List Int) (hl : a.length ≤ 35184372088832) : Ev (fun k => laws_eqByteS.f k a b) (decide (a = b)) := by
  by_cases h : a.length = b.length
  · refine Ev.congr (fun k => ?_) (eqByteS_loop a b hl a b [] [] rfl rfl rfl h)
    unfold laws_eqByteS.f
    rw [if_pos (by omega)]
    rfl
  · refine ev_some fun k => ?_
    unfold laws_eqByteS.f
    rw [if_neg (by omega)]
    have : a ≠ b := fun e => h (by rw [e])
    simp [this]
theorem eqByteS_same (a : List Int) (hl : a.length ≤ 35184372088832) : Ev (fun k => laws_eqByteS.f k a a) true := ev_eq (eqByteS_ev a a hl) (by simp)

/-- The marks m, m + 1, .. as bytes. -/
def marksB : Int → Nat → List Int
  | _, 0 => []
  | m, n + 1 => (m % 256) :: marksB (m + 1) n
theorem marksB_length (m : Int) (n : Nat) : (marksB m n).length = n := by
  induction n generalizing m with
  | zero => rfl
  | succ n ih => simp [marksB, ih]
theorem markByteS_loop : ∀ (suf pre : List Int) (m : Int), (pre ++ suf).length ≤ 35184372088832 → 0 ≤ m → m + suf.length ≤ 70368744177664 → Ev (fun k => laws_markByteS.l0 k (pre ++ suf) m (pre.length : Int)) (m + suf.length, pre ++ marksB m suf.length) := by
  intro suf
  induction suf with
  | nil =>
    intro pre m hl hm hb
    refine ev_end fun k => ?_
    simp only [laws_markByteS.l0]
    rw [if_neg (by simp)]
    simp [marksB]
  | cons x suf ih =>
    intro pre m hl hm hb
    have hlen : (pre ++ x :: suf).length = pre.length + (suf.length + 1) := by simp
    have hc : ((x :: suf).length : Int) = (suf.length : Int) + 1 := by simp
    refine Ev.step (fun k => ?_) (ev_eq (ih (pre ++ [m % 256]) (m + 1) (by simp at hl ⊢; omega) (by omega) (by omega)) (by simp [marksB]; omega))
    simp only [laws_markByteS.l0]
    rw [if_pos (by omega), if_pos (by omega), wrap_ok (n := m + 1) (by omega), wrap_ok (n := (pre.length : Int) + 1) (by omega), snoc_len]
    congr 1
    simp
theorem markByteS_ev (l : List Int) (hl : l.length ≤ 35184372088832) : Ev (fun k => laws_markByteS.f k l 1) (1 + (l.length : Int), marksB 1 l.length) := markByteS_loop l [] 1 hl (by omega) (by omega)
theorem markByteS_from (l : List Int) (m : Int) (hl : l.length ≤ 35184372088832) (h0 : 0 ≤ m) (hm : m ≤ 35184372088832) : Ev (fun k => laws_markByteS.f k l m) (m + (l.length : Int), marksB m l.length) := markByteS_loop l [] m hl h0 (by omega)

theorem eqIntS_loop (a b : List Int) (hl : a.length ≤ 35184372088832) : ∀ (s1 s2 p1 p2 : List Int), a = p1 ++ s1 → b = p2 ++ s2 → p1.length = p2.length → s1.length = s2.length → Ev (fun k => laws_eqIntS.l0 k a b (p1.length : Int)) (decide (s1 = s2)) := by
  intro s1
  induction s1 with
  | nil =>
    intro s2 p1 p2 ha hb hp hs
    obtain rfl : s2 = [] := List.eq_nil_of_length_eq_zero hs.symm
    obtain ⟨_, h2⟩ := end_facts ha
    refine ev_end fun k => ?_
    simp only [laws_eqIntS.l0]
    rw [if_neg h2]
    simp
  | cons x s1 ih =>
    intro s2 p1 p2 ha hb hp hs
    cases s2 with
    | nil => simp at hs
    | cons y s2 =>
    obtain ⟨h1, h2, h3, h4⟩ := mid_facts ha hl
    have hb1 : b.length = p2.length + (s2.length + 1) := by rw [hb]; simp
    have hb2 : rd b (p1.length : Int) = y := by rw [hp, hb]; exact rd_mid p2 y s2
    have hb3 : b = (p2 ++ [y]) ++ s2 := by rw [hb]; simp
    by_cases hxy : x = y
    · refine Ev.step (fun k => ?_) (ev_eq (ih s2 (p1 ++ [x]) (p2 ++ [y]) h4 hb3 (by simp [hp]) (by simpa using hs)) (by simp [hxy]))
      simp only [laws_eqIntS.l0]
      rw [if_pos h1, if_pos (by omega), if_pos (by omega), h2, hb2, if_pos hxy, h3]
    · refine ev_end fun k => ?_
      simp only [laws_eqIntS.l0]
      rw [if_pos h1, if_pos (by omega), if_pos (by omega), h2, hb2, if_neg hxy]
      simp [hxy]
theorem eqIntS_ev (a b : List Int) (hl : a.length ≤ 35184372088832) : Ev (fun k => laws_eqIntS.f k a b) (decide (a = b)) := by
  by_cases h : a.length = b.length
  · refine Ev.congr (fun k => ?_) (eqIntS_loop a b hl a b [] [] rfl rfl rfl h)
    unfold laws_eqIntS.f
    rw [if_pos (by omega)]
    rfl
  · refine ev_some fun k => ?_
    unfold laws_eqIntS.f
    rw [if_neg (by omega)]
    have : a ≠ b := fun e => h (by rw [e])
    simp [this]
theorem eqIntS_same (a : List Int) (hl : a.length ≤ 35184372088832) : Ev (fun k => laws_eqIntS.f k a a) true := ev_eq (eqIntS_ev a a hl) (by simp)

theorem markIntS_loop : ∀ (suf pre : List Int) (m : Int), (pre ++ suf).length ≤ 35184372088832 → 0 ≤ m → m + suf.length ≤ 70368744177664 → Ev (fun k => laws_markIntS.l0 k (pre ++ suf) m (pre.length : Int)) (m + suf.length, pre ++ marks m suf.length) := by
  intro suf
  induction suf with
  | nil =>
    intro pre m hl hm hb
    refine ev_end fun k => ?_
    simp only [laws_markIntS.l0]
    rw [if_neg (by simp)]
    simp [marks]
  | cons x suf ih =>
    intro pre m hl hm hb
    have hlen : (pre ++ x :: suf).length = pre.length + (suf.length + 1) := by simp
    have hc : ((x :: suf).length : Int) = (suf.length : Int) + 1 := by simp
    refine Ev.step (fun k => ?_) (ev_eq (ih (pre ++ [m]) (m + 1) (by simp at hl ⊢; omega) (by omega) (by omega)) (by simp [marks]; omega))
    simp only [laws_markIntS.l0]
    rw [if_pos (by omega), if_pos (by omega), wrap_ok (n := m + 1) (by omega), wrap_ok (n := (pre.length : Int) + 1) (by omega), snoc_len]
    congr 1
    simp
theorem markIntS_ev (l : List Int) (hl : l.length ≤ 35184372088832) : Ev (fun k => laws_markIntS.f k l 1) (1 + (l.length : Int), marks 1 l.length) := markIntS_loop l [] 1 hl (by omega) (by omega)
theorem markIntS_from (l : List Int) (m : Int) (hl : l.length ≤ 35184372088832) (h0 : 0 ≤ m) (hm : m ≤ 35184372088832) : Ev (fun k => laws_markIntS.f k l m) (m + (l.length : Int), marks m l.length) := markIntS_loop l [] m hl h0 (by omega)

theorem heldIntS_loop (n : Nat) : ∀ (pre : List Int) (m : Int), pre.length + n ≤ 35184372088832 → 0 ≤ m → m + n ≤ 70368744177664 → Ev (fun k => laws_heldIntS.l0 k (pre ++ marks m n) m (pre.length : Int)) (m + n) := by
  induction n with
  | zero =>
    intro pre m hl hm hb
    refine ev_end fun k => ?_
    simp only [laws_heldIntS.l0]
    rw [if_neg (by simp [marks])]
    simp
  | succ n ih =>
    intro pre m hl hm hb
    refine Ev.step (fun k => ?_) (ev_eq (ih (pre ++ [m]) (m + 1) (by simp; omega) (by omega) (by omega)) (by omega))
    have e : pre ++ marks m (n + 1) = pre ++ (m) :: marks (m + 1) n := by simp [marks]
    have hlen : (pre ++ (m) :: marks (m + 1) n).length = pre.length + (n + 1) := by simp [marks_length]
    rw [e]
    simp only [laws_heldIntS.l0]
    rw [if_pos (by omega), if_pos (by omega), rd_mid, if_pos rfl, wrap_ok (n := m + 1) (by omega), wrap_ok (n := (pre.length : Int) + 1) (by omega), snoc_len]
    simp
theorem heldIntS_ev (n : Nat) (hl : n ≤ 35184372088832) : Ev (fun k => laws_heldIntS.f k (marks 1 n) 1) (1 + (n : Int)) := heldIntS_loop n [] 1 (by simpa using hl) (by omega) (by omega)

theorem wraps_i64 (n : Int) (h0 : 0 ≤ n) (h1 : n < 2 ^ 63) : IntKind.i64.wrap n = n := by rw [IntKind.wrap_i64]; omega
theorem and127 (x : Int) (h0 : 0 ≤ x) (h1 : x < 9223372036854775808) : Go.bits .and .i64 x 127 = x % 128 := bits_mask .i64 63 (by decide) wraps_i64 7 (by decide) x h0 h1
theorem or_turn (x y : Int) (hx : 0 ≤ x) (hx1 : x < 9223372036854775808) (hy : 0 ≤ y) (hy1 : y < 9223372036854775808) : Go.bits .or .i64 x y = Go.bits .or .i64 y x := by
  obtain ⟨a, rfl⟩ := Int.eq_ofNat_of_zero_le hx
  obtain ⟨b, rfl⟩ := Int.eq_ofNat_of_zero_le hy
  rw [(bits_nat .i64 63 (by decide) wraps_i64 a b (by omega) (by omega)).2, (bits_nat .i64 63 (by decide) wraps_i64 b a (by omega) (by omega)).2, Nat.or_comm]
theorem or_low (x y : Int) (i : Nat) (hx : 0 ≤ x) (hx1 : x < 9223372036854775808) (hm : x % 2 ^ i = 0) (hy : 0 ≤ y) (hy1 : y < 2 ^ i) (hy2 : y < 9223372036854775808) : Go.bits .or .i64 y x = y + x := by
  rw [or_turn y x hy hy2 hx hx1, bits_join .i64 63 (by decide) wraps_i64 i x y hx hm (by omega) hy hy1 (by omega)]
  omega
theorem or128 (y : Int) (h0 : 0 ≤ y) (h1 : y < 128) : Go.bits .or .i64 y 128 = y + 128 := or_low 128 y 7 (by omega) (by omega) (by decide) h0 (by omega) (by omega)

/-! ### A varint that is read -/
def rdF (b : List Int) (o : Int) : Nat → Int → Int → Int → Int × Int × Bool
  | 0, _, _, _ => (0, 0, false)
  | f + 1, k, m, n => if o + k < (b.length : Int) then (if rd b (o + k) < 128 then (if rd b (o + k) = 0 ∧ k > 0 then (0, 0, false) else if n + rd b (o + k) % 128 * m > 1000000000000 then (0, 0, false) else (n + rd b (o + k) % 128 * m, o + k + 1, true)) else rdF b o f (k + 1) (m * 128) (n + rd b (o + k) % 128 * m)) else (0, 0, false)
def readP (b : List Int) (o : Int) : Int × Int × Bool := if 0 ≤ o ∧ o < (b.length : Int) then rdF b o 6 0 1 0 else (0, 0, false)
theorem rd_byte {b : List Int} (hw : ∀ x ∈ b, 0 ≤ x ∧ x ≤ 255) (i : Int) : 0 ≤ rd b i ∧ rd b i ≤ 255 := by
  unfold rd
  rw [List.getD_eq_getElem?_getD]
  cases h : b[i.toNat]? with
  | none => simp
  | some x => exact hw x (List.mem_of_getElem? h)
theorem shl_at (k : Nat) (hk : k < 6) (y : Int) (h0 : 0 ≤ y) (h1 : y < 128) : shl .i64 y (wrap64 (7 * (k : Int))) = y * 128 ^ k := by
  rw [wrap_ok (by omega)]
  unfold shl
  rcases (by omega : k = 0 ∨ k = 1 ∨ k = 2 ∨ k = 3 ∨ k = 4 ∨ k = 5) with rfl | rfl | rfl | rfl | rfl | rfl <;> (rw [IntKind.wrap_i64]; simp [IntKind.bits]; try omega)
theorem pow_facts (k : Nat) (hk : k < 6) : (0 : Int) < 128 ^ k ∧ (128 : Int) ^ k ≤ 34359738368 ∧ (128 : Int) ^ (k + 1) = 128 ^ k * 128 := by
  refine ⟨Int.pow_pos (by omega), ?_, Int.pow_succ ..⟩
  rcases (by omega : k = 0 ∨ k = 1 ∨ k = 2 ∨ k = 3 ∨ k = 4 ∨ k = 5) with rfl | rfl | rfl | rfl | rfl | rfl <;> decide
theorem mul_small {y m : Int} (h0 : 0 ≤ y) (h1 : y ≤ 127) (hm : 0 < m) : 0 ≤ y * m ∧ y * m ≤ 127 * m := ⟨Int.mul_nonneg h0 (by omega), Int.mul_le_mul_of_nonneg_right h1 (by omega)⟩

theorem or_at (k : Nat) (hk : k < 6) (n x : Int) (h0 : 0 ≤ n) (h1 : n < 128 ^ k) (hx0 : 0 ≤ x) (hx : x ≤ 255) : Go.bits .or .i64 n (shl .i64 (Go.bits .and .i64 x 127) (wrap64 (7 * (k : Int)))) = n + x % 128 * 128 ^ k := by
  obtain ⟨hp, hp2, _⟩ := pow_facts k hk
  have hm := mul_small (y := x % 128) (m := 128 ^ k) (by omega) (by omega) hp
  rw [and127 x hx0 (by omega), shl_at k hk _ (by omega) (by omega)]
  refine or_low _ n (7 * k) hm.1 (by omega) ?_ h0 ?_ (by omega)
  · rw [Int.pow_mul]
    exact Int.mul_emod_left ..
  · rw [Int.pow_mul]
    exact h1
theorem specRead_loop (b : List Int) (o : Int) (hb : b.length ≤ 35184372088832) (ho : 0 ≤ o) (hw : ∀ x ∈ b, 0 ≤ x ∧ x ≤ 255) : ∀ (f k : Nat) (n : Int), k + f = 6 → 0 ≤ n → n < 128 ^ k → Ev (fun j => spec_ReadUvarint.l0 j b o n (k : Int)) (rdF b o f k (128 ^ k) n) := by
  intro f
  induction f with
  | zero =>
    intro k n hk h0 h1
    refine ev_end fun j => ?_
    simp only [spec_ReadUvarint.l0, rdF]
    rw [if_neg (by omega)]
  | succ f ih =>
    intro k n hk h0 h1
    obtain ⟨hp, hp2, hp3⟩ := pow_facts k (by omega)
    have hx := rd_byte hw (o + k)
    have hm := mul_small (y := rd b (o + k) % 128) (m := 128 ^ k) (by omega) (by omega) hp
    refine Ev.step (f := fun j => spec_ReadUvarint.j1 j b o n (k : Int) (decide (o ≥ wrap64 ((b.length : Int) - k)))) (fun j => ?_) ?_
    · simp only [spec_ReadUvarint.l0]
      rw [if_pos (by omega), if_neg (by omega)]
    rw [wrap_ok (n := (b.length : Int) - k) (by omega)]
    by_cases hlt : o + k < (b.length : Int)
    · have hd : decide (o ≥ (b.length : Int) - k) = false := by simp; omega
      rw [hd]
      have hor := or_at k (by omega) n (rd b (o + k)) h0 h1 hx.1 hx.2
      by_cases h128 : rd b (o + k) < 128
      · refine ev_end fun j => ?_
        simp only [spec_ReadUvarint.j1]
        rw [if_neg (by simp), wrap_ok (n := o + k) (by omega), wrap_ok (n := rd b (o + k)) (by omega), if_pos (by omega), if_pos hlt, if_pos (by rw [wrap_ok] <;> omega), if_pos h128, hor, wrap_ok (n := o + k + 1) (by omega)]
        unfold rdF
        rw [if_pos hlt, if_pos h128]
        by_cases hz : rd b (o + k) = 0
        · by_cases hk0 : (k : Int) > 0
          · rw [if_pos hz, if_pos hk0, if_pos ⟨hz, hk0⟩]
          · rw [if_pos hz, if_neg hk0, if_neg (show ¬ (rd b (o + k) = 0 ∧ (k : Int) > 0) from fun h => hk0 h.2)]
            split <;> rfl
        · rw [if_neg hz, if_neg (show ¬ (rd b (o + k) = 0 ∧ (k : Int) > 0) from fun h => hz h.1)]
          split <;> rfl
      · refine Ev.step (f := fun j => spec_ReadUvarint.l0 j b o (n + rd b (o + k) % 128 * 128 ^ k) ((k + 1 : Nat) : Int)) (fun j => ?_) ?_
        · simp only [spec_ReadUvarint.j1]
          rw [if_neg (by simp), wrap_ok (n := o + k) (by omega), wrap_ok (n := rd b (o + k)) (by omega), if_pos (by omega), if_pos hlt, if_pos (by rw [wrap_ok] <;> omega), if_neg h128, hor, wrap_ok (n := (k : Int) + 1) (by omega)]
          rfl
        · unfold rdF
          rw [if_pos hlt, if_neg h128]
          have h := ih (k + 1) (n + rd b (o + k) % 128 * 128 ^ k) (by omega) (by omega) (by omega)
          rw [hp3] at h
          exact h
    · have hd : decide (o ≥ (b.length : Int) - k) = true := by simp; omega
      rw [hd]
      refine ev_end fun j => ?_
      simp only [spec_ReadUvarint.j1]
      rw [if_pos trivial]
      unfold rdF
      rw [if_neg hlt]
theorem specRead_ev (b : List Int) (o : Int) (hb : b.length ≤ 35184372088832) (hw : ∀ x ∈ b, 0 ≤ x ∧ x ≤ 255) : Ev (fun j => spec_ReadUvarint.f j b o) (readP b o) := by
  by_cases ho : 0 ≤ o
  · unfold readP
    by_cases h : o < (b.length : Int)
    · rw [if_pos ⟨ho, h⟩]
      exact specRead_loop b o hb ho hw 6 0 0 rfl (by omega) (by decide)
    · rw [if_neg (fun h' => h h'.2)]
      refine ev_eq (specRead_loop b o hb ho hw 6 0 0 rfl (by omega) (by decide)) ?_
      unfold rdF
      rw [if_neg (by simpa using h)]
  · unfold readP
    rw [if_neg (fun h' => ho h'.1)]
    unfold spec_ReadUvarint.f
    refine Ev.step (f := fun j => spec_ReadUvarint.j1 j b o 0 0 true) (fun j => ?_) (ev_end fun j => ?_)
    · simp only [spec_ReadUvarint.l0]
      rw [if_pos (by omega), if_pos (by omega)]
    · simp only [spec_ReadUvarint.j1]
      rw [if_pos trivial]

theorem add_at (k : Nat) (hk : k < 6) (n x : Int) (h0 : 0 ≤ n) (h1 : n < 128 ^ k) (hx0 : 0 ≤ x) (hx : x ≤ 255) : wrap64 (n + shl .i64 (Int.tmod x 128) (wrap64 (7 * (k : Int)))) = n + x % 128 * 128 ^ k := by
  obtain ⟨hp, hp2, _⟩ := pow_facts k hk
  have hm := mul_small (y := x % 128) (m := 128 ^ k) (by omega) (by omega) hp
  rw [Int.tmod_eq_emod_of_nonneg hx0, shl_at k hk _ (by omega) (by omega), wrap_ok (by omega)]
theorem implRead_loop (b : List Int) (o : Int) (hb : b.length ≤ 35184372088832) (ho : 0 ≤ o) (ho2 : o < (b.length : Int)) (hw : ∀ x ∈ b, 0 ≤ x ∧ x ≤ 255) : ∀ (f k : Nat) (n : Int), k + f = 6 → 0 ≤ n → n < 128 ^ k → Ev (fun j => impl_ReadUvarint.l0 j b o n (k : Int)) (rdF b o f k (128 ^ k) n) := by
  intro f
  induction f with
  | zero =>
    intro k n hk h0 h1
    refine Ev.step (f := fun j => impl_ReadUvarint.j1 j b o n (k : Int) false) (fun j => ?_) (ev_end fun j => ?_)
    · simp only [impl_ReadUvarint.l0]
      rw [if_neg (by omega)]
    · simp only [impl_ReadUvarint.j1, rdF]
      rw [if_neg (by simp)]
  | succ f ih =>
    intro k n hk h0 h1
    obtain ⟨hp, hp2, hp3⟩ := pow_facts k (by omega)
    have hx := rd_byte hw (o + k)
    have hm := mul_small (y := rd b (o + k) % 128) (m := 128 ^ k) (by omega) (by omega) hp
    refine Ev.step (f := fun j => impl_ReadUvarint.j1 j b o n (k : Int) (decide (wrap64 (o + k) < (b.length : Int)))) (fun j => ?_) ?_
    · simp only [impl_ReadUvarint.l0]
      rw [if_pos (by omega)]
    rw [wrap_ok (n := o + k) (by omega)]
    by_cases hlt : o + k < (b.length : Int)
    · have hd : decide (o + k < (b.length : Int)) = true := by simp; omega
      rw [hd]
      have hor := add_at k (by omega) n (rd b (o + k)) h0 h1 hx.1 hx.2
      by_cases h128 : rd b (o + k) < 128
      · refine ev_end fun j => ?_
        simp only [impl_ReadUvarint.j1]
        rw [if_pos trivial, wrap_ok (n := o + k) (by omega), wrap_ok (n := rd b (o + k)) (by omega), if_pos (by omega), if_pos hlt, if_pos (by rw [wrap_ok] <;> omega), if_pos h128, hor, wrap_ok (n := o + k + 1) (by omega)]
        unfold rdF
        rw [if_pos hlt, if_pos h128]
        by_cases hk0 : (k : Int) > 0
        · by_cases hz : rd b (o + k) = 0
          · rw [if_pos hk0, if_pos hz, if_pos ⟨hz, hk0⟩]
          · rw [if_pos hk0, if_neg hz, if_neg (show ¬ (rd b (o + k) = 0 ∧ (k : Int) > 0) from fun h => hz h.1)]
            split <;> rfl
        · rw [if_neg hk0, if_neg (show ¬ (rd b (o + k) = 0 ∧ (k : Int) > 0) from fun h => hk0 h.2)]
          split <;> rfl
      · refine Ev.step (f := fun j => impl_ReadUvarint.l0 j b o (n + rd b (o + k) % 128 * 128 ^ k) ((k + 1 : Nat) : Int)) (fun j => ?_) ?_
        · simp only [impl_ReadUvarint.j1]
          rw [if_pos trivial, wrap_ok (n := o + k) (by omega), wrap_ok (n := rd b (o + k)) (by omega), if_pos (by omega), if_pos hlt, if_pos (by rw [wrap_ok] <;> omega), if_neg h128, hor, wrap_ok (n := (k : Int) + 1) (by omega)]
          rfl
        · unfold rdF
          rw [if_pos hlt, if_neg h128]
          have h := ih (k + 1) (n + rd b (o + k) % 128 * 128 ^ k) (by omega) (by omega) (by omega)
          rw [hp3] at h
          exact h
    · have hd : decide (o + k < (b.length : Int)) = false := by simp; omega
      rw [hd]
      refine ev_end fun j => ?_
      simp only [impl_ReadUvarint.j1]
      rw [if_neg (by simp)]
      unfold rdF
      rw [if_neg hlt]
theorem implRead_ev (b : List Int) (o : Int) (hb : b.length ≤ 35184372088832) (hw : ∀ x ∈ b, 0 ≤ x ∧ x ≤ 255) : Ev (fun j => impl_ReadUvarint.f j b o) (readP b o) := by
  unfold impl_ReadUvarint.f impl_InRange.f readP
  rw [wrap_ok (n := (b.length : Int) - 1) (by omega)]
  by_cases ho : 0 ≤ o
  · refine ev_call (if_pos ho) ?_
    by_cases h : o < (b.length : Int)
    · refine ev_pos (by simp; omega) ?_
      rw [if_pos ⟨ho, h⟩]
      exact implRead_loop b o hb ho h hw 6 0 0 rfl (by omega) (by decide)
    · refine ev_neg (by simp; omega) ?_
      rw [if_neg (fun h' => h h'.2)]
      exact Ev.now _
  · refine ev_call (if_neg ho) ?_
    refine ev_neg (by simp) ?_
    rw [if_neg (fun h' => ho h'.1)]
    exact Ev.now _

theorem rdF_ok (b : List Int) (o : Int) (ho : 0 ≤ o) (hw : ∀ x ∈ b, 0 ≤ x ∧ x ≤ 255) : ∀ (f : Nat) (k m n : Int), 0 ≤ k → 0 ≤ m → 0 ≤ n → (rdF b o f k m n).2.2 = true → 0 ≤ (rdF b o f k m n).1 ∧ (rdF b o f k m n).1 ≤ 1000000000000 ∧ o < (rdF b o f k m n).2.1 ∧ (rdF b o f k m n).2.1 ≤ (b.length : Int) := by
  intro f
  induction f with
  | zero => intro k m n _ _ _ h; simp [rdF] at h
  | succ f ih =>
    intro k m n hk hm hn h
    have hx := rd_byte hw (o + k)
    have hy : 0 ≤ rd b (o + k) % 128 * m := Int.mul_nonneg (by omega) hm
    unfold rdF at h ⊢
    by_cases hlt : o + k < (b.length : Int)
    · rw [if_pos hlt] at h ⊢
      by_cases h128 : rd b (o + k) < 128
      · rw [if_pos h128] at h ⊢
        by_cases hz : rd b (o + k) = 0 ∧ k > 0
        · rw [if_pos hz] at h
          simp at h
        · rw [if_neg hz] at h ⊢
          by_cases hbig : n + rd b (o + k) % 128 * m > 1000000000000
          · rw [if_pos hbig] at h
            simp at h
          · rw [if_neg hbig]
            exact ⟨by show 0 ≤ n + _; omega, by show n + _ ≤ _; omega, by show o < o + k + 1; omega, by show o + k + 1 ≤ _; omega⟩
      · rw [if_neg h128] at h ⊢
        exact ih _ _ _ (by omega) (by omega) (by omega) h
    · rw [if_neg hlt] at h
      simp at h
theorem readP_ok (b : List Int) (o : Int) (hw : ∀ x ∈ b, 0 ≤ x ∧ x ≤ 255) (h : (readP b o).2.2 = true) : 0 ≤ (readP b o).1 ∧ (readP b o).1 ≤ 1000000000000 ∧ o < (readP b o).2.1 ∧ (readP b o).2.1 ≤ (b.length : Int) ∧ 0 ≤ o := by
  unfold readP at h ⊢
  by_cases ho : 0 ≤ o ∧ o < (b.length : Int)
  · rw [if_pos ho] at h ⊢
    obtain ⟨h1, h2, h3, h4⟩ := rdF_ok b o ho.1 hw 6 0 1 0 (by omega) (by omega) (by omega) h
    exact ⟨h1, h2, h3, h4, ho.1⟩
  · rw [if_neg ho] at h
    simp at h

/-- n varints from o on, behind acc. -/
def decF (b : List Int) : Nat → Int → List Int → List Int × Int × Bool
  | 0, o, acc => (acc, o, true)
  | n + 1, o, acc => if (readP b o).2.2 = true then decF b n (readP b o).2.1 (acc ++ [(readP b o).1]) else ([], 0, false)
def decP (b : List Int) (o c : Int) : List Int × Int × Bool := if (0 ≤ c ∧ c ≤ 100) ∧ 0 ≤ o ∧ o ≤ (b.length : Int) then decF b c.toNat o [] else ([], 0, false)
theorem decF_len (b : List Int) (n : Nat) : ∀ o acc, (decF b n o acc).1.length ≤ acc.length + n := by
  induction n with
  | zero => intro o acc; simp [decF]
  | succ n ih =>
    intro o acc
    unfold decF
    split
    · have := ih (readP b o).2.1 (acc ++ [(readP b o).1])
      simp at this
      omega
    · simp
theorem decP_len (b : List Int) (o c : Int) : (decP b o c).1.length ≤ 100 := by
  unfold decP
  split
  · have := decF_len b c.toNat o []
    simp at this
    omega
  · simp

theorem specDec_loop (b : List Int) (c : Int) (hb : b.length ≤ 1048576) (hw : ∀ x ∈ b, 0 ≤ x ∧ x ≤ 255) (hc : c ≤ 100) : ∀ (n : Nat) (i o : Int) (acc : List Int), 0 ≤ i → i + n = c → acc.length ≤ 100 - n → Ev (fun k => spec_DecodeInts.l0 k b o c acc i) (decF b n o acc) := by
  intro n
  induction n with
  | zero =>
    intro i o acc h0 h1 h2
    refine ev_end fun k => ?_
    simp only [spec_DecodeInts.l0]
    rw [if_neg (by omega)]
    rfl
  | succ n ih =>
    intro i o acc h0 h1 h2
    refine Ev.step (f := fun k => (spec_ReadUvarint.f k b o).bind fun bt => if bt.2.2 = true then (if acc.length < 17592186044416 then spec_DecodeInts.l0 k b bt.2.1 c (acc ++ [bt.1]) (i + 1) else none) else some ([], 0, false)) (fun k => ?_) ?_
    · simp only [spec_DecodeInts.l0]
      rw [if_pos (by omega), wrap_ok (n := i + 1) (by omega)]
    · refine ev_bind (specRead_ev b o (by omega) hw) ?_
      unfold decF
      by_cases h : (readP b o).2.2 = true
      · refine ev_pos h ?_
        refine ev_pos (by omega) ?_
        rw [if_pos h]
        exact ih (i + 1) _ _ (by omega) (by omega) (by simp; omega)
      · refine ev_neg h ?_
        rw [if_neg h]
        exact Ev.now _
theorem specDec_ev (b : List Int) (o c : Int) (hb : b.length ≤ 1048576) (hw : ∀ x ∈ b, 0 ≤ x ∧ x ≤ 255) : Ev (fun k => spec_DecodeInts.f k b o c) (decP b o c) := by
  unfold spec_DecodeInts.f spec_l1In.f decP
  refine ev_call rfl ?_
  by_cases h1 : 0 ≤ c
  · refine ev_call (if_pos h1) ?_
    by_cases h2 : c ≤ 100
    · refine ev_pos (by simp [h2]) ?_
      by_cases h3 : 0 ≤ o
      · refine ev_call (if_pos h3) ?_
        by_cases h4 : o ≤ (b.length : Int)
        · rw [if_pos ⟨⟨h1, h2⟩, h3, h4⟩]
          refine Ev.step (f := fun k => spec_DecodeInts.l0 k b o c [] 0) (fun k => ?_) ?_
          · simp only [spec_DecodeInts.j0]
            rw [if_neg (by simp [h4])]
          · exact specDec_loop b c hb hw h2 c.toNat 0 o [] (by omega) (by omega) (by simp)
        · rw [if_neg (fun h => h4 h.2.2)]
          refine ev_end fun k => ?_
          simp only [spec_DecodeInts.j0]
          rw [if_pos (by simp; omega)]
      · refine ev_call (if_neg h3) ?_
        rw [if_neg (fun h => h3 h.2.1)]
        refine ev_end fun k => ?_
        simp only [spec_DecodeInts.j0]
        rw [if_pos (by simp)]
    · refine ev_neg (by simp [h2]) ?_
      rw [if_neg (fun h => h2 h.1.2)]
      refine ev_end fun k => ?_
      simp only [spec_DecodeInts.j0]
      rw [if_pos trivial]
  · refine ev_call (if_neg h1) ?_
    refine ev_neg (by simp) ?_
    rw [if_neg (fun h => h1 h.1.1)]
    refine ev_end fun k => ?_
    simp only [spec_DecodeInts.j0]
    rw [if_pos trivial]
theorem implDec_loop (b : List Int) (c : Int) (hb : b.length ≤ 1048576) (hw : ∀ x ∈ b, 0 ≤ x ∧ x ≤ 255) (hc : c ≤ 100) : ∀ (n : Nat) (i o : Int) (acc : List Int), 0 ≤ i → i + n = c → acc.length ≤ 100 - n → Ev (fun k => impl_DecodeInts.l0 k b o acc c i) (decF b n o acc) := by
  intro n
  induction n with
  | zero =>
    intro i o acc h0 h1 h2
    refine ev_end fun k => ?_
    simp only [impl_DecodeInts.l0]
    rw [if_neg (by omega)]
    rfl
  | succ n ih =>
    intro i o acc h0 h1 h2
    refine Ev.step (f := fun k => (impl_ReadUvarint.f k b o).bind fun bt => if bt.2.2 = true then (if acc.length < 17592186044416 then impl_DecodeInts.l0 k b bt.2.1 (acc ++ [bt.1]) c (i + 1) else none) else some ([], 0, false)) (fun k => ?_) ?_
    · simp only [impl_DecodeInts.l0]
      rw [if_pos (by omega), wrap_ok (n := i + 1) (by omega)]
    · refine ev_bind (implRead_ev b o (by omega) hw) ?_
      unfold decF
      by_cases h : (readP b o).2.2 = true
      · refine ev_pos h ?_
        refine ev_pos (by omega) ?_
        rw [if_pos h]
        exact ih (i + 1) _ _ (by omega) (by omega) (by simp; omega)
      · refine ev_neg h ?_
        rw [if_neg h]
        exact Ev.now _
theorem implDec_ev (b : List Int) (o c : Int) (hb : b.length ≤ 1048576) (hw : ∀ x ∈ b, 0 ≤ x ∧ x ≤ 255) : Ev (fun k => impl_DecodeInts.f k b o c) (decP b o c) := by
  unfold impl_DecodeInts.f impl_InRange.f decP
  by_cases h1 : 0 ≤ c
  · refine ev_call (if_pos h1) ?_
    by_cases h2 : c ≤ 100
    · refine ev_pos (by simp [h2]) ?_
      by_cases h3 : 0 ≤ o
      · refine ev_call (if_pos h3) ?_
        by_cases h4 : o ≤ (b.length : Int)
        · rw [if_pos ⟨⟨h1, h2⟩, h3, h4⟩]
          refine Ev.step (f := fun k => impl_DecodeInts.l0 k b o [] c 0) (fun k => ?_) ?_
          · simp only [impl_DecodeInts.j0]
            rw [if_neg (by simp [h4])]
          · exact implDec_loop b c hb hw h2 c.toNat 0 o [] (by omega) (by omega) (by simp)
        · rw [if_neg (fun h => h4 h.2.2)]
          refine ev_end fun k => ?_
          simp only [impl_DecodeInts.j0]
          rw [if_pos (by simp; omega)]
      · refine ev_call (if_neg h3) ?_
        rw [if_neg (fun h => h3 h.2.1)]
        refine ev_end fun k => ?_
        simp only [impl_DecodeInts.j0]
        rw [if_pos (by simp)]
    · refine ev_neg (by simp [h2]) ?_
      rw [if_neg (fun h => h2 h.1.2)]
      refine ev_end fun k => ?_
      simp only [impl_DecodeInts.j0]
      rw [if_pos trivial]
  · refine ev_call (if_neg h1) ?_
    refine ev_neg (by simp) ?_
    rw [if_neg (fun h => h1 h.1.1)]
    refine ev_end fun k => ?_
    simp only [impl_DecodeInts.j0]
    rw [if_pos trivial]

theorem FnExactDecodeInts : laws_FnExactDecodeInts.Pure := by
  intro l0 a1 a2 _ _ hwf _ _
  have hwb : ∀ x ∈ l0, 0 ≤ x ∧ x ≤ 255 := fun x hx => bounds_u8 (hwf x hx)
  refine Ev.rounds ?_
  by_cases hb : (l0.length : Int) > 1048576
  · exact ev_some fun k => by unfold laws_FnExactDecodeInts.f; rw [if_pos hb]
  have hl : l0.length ≤ 1048576 := by omega
  have hw := decP_len l0 a1 a2
  unfold laws_FnExactDecodeInts.f
  refine ev_neg hb ?_
  refine ev_bind (toByteS_ev l0 (by omega)) ?_
  refine ev_bind (specDec_ev l0 a1 a2 (by omega) hwb) ?_
  refine ev_bind (toByteS_ev l0 (by omega)) ?_
  refine ev_bind (implDec_ev l0 a1 a2 (by omega) hwb) ?_
  refine ev_bind (eqIntS_same _ (by omega)) ?_
  refine ev_pos rfl ?_
  refine ev_pos rfl ?_
  refine Ev.step (fun k => laws_FnExactDecodeInts.j0.eq_2 _ _ _ _ _ _ _ _ _ _ _ k) ?_
  refine ev_neg (by simp) ?_
  refine ev_bind (toByteS_ev l0 (by omega)) ?_
  refine ev_bind (eqByteS_same l0 (by omega)) ?_
  refine ev_pos rfl ?_
  refine ev_bind (markByteS_ev l0 (by omega)) ?_
  refine ev_neg (by first | omega | (simp only []; omega)) ?_
  refine ev_bind (eqIntS_same _ (by omega)) ?_
  refine ev_pos rfl ?_
  refine ev_pos rfl ?_
  refine Ev.step (fun k => laws_FnExactDecodeInts.j1.eq_2 _ _ _ _ _ _ _ _ k) ?_
  refine ev_neg (by simp) ?_
  refine ev_bind (markIntS_ev _ (by omega)) ?_
  refine ev_bind (heldIntS_ev _ (by omega)) ?_
  refine ev_neg (by first | omega | (simp only []; omega)) ?_
  refine ev_pos rfl ?_
  refine ev_bind (toByteS_ev l0 (by omega)) ?_
  refine ev_bind (implDec_ev l0 a1 a2 (by omega) hwb) ?_
  refine ev_bind (eqIntS_same _ (by omega)) ?_
  refine ev_pos rfl ?_
  refine ev_pos rfl ?_
  refine Ev.step (fun k => laws_FnExactDecodeInts.j2.eq_2 _ _ _ k) ?_
  refine ev_neg (by simp) ?_
  refine ev_bind (heldIntS_ev _ (by omega)) ?_
  refine ev_neg (by first | omega | (simp only []; omega)) ?_
  refine ev_pos rfl ?_
  exact Ev.now true

end Go.Proofs.Ytbjecehiappdeac.Pure

/-- The words' fact, under the name by which the row asks for it. -/
theorem Go.Proofs.Ytbjecehiappdeac.PrintWords.sized_ints {H : Type} {enc : Go.TypeId × Go.Value → H} {P : Go.Program} {W : Go.World} {base : Nat} {spare : Nat → Bool} {held : Bool} {t e : Go.TypeId} {k : Go.IntKind} {a : Option Go.Addr} {len cap : Nat} {d : Go.DataW H} {ps : List Go.MemPlace} {ts : List Go.TypeId} {ds : List (Go.DataW H)} {j : Nat}
    (hsz : (Go.DataW.weightsEach P ts ds).all (· ≤ Go.reachBytes) = true) (ht : ts[j]? = some t) (hd : ds[j]? = some d) (hu : P.underlying t = some (.slice e)) (he : P.underlying e = some (.int k)) (hc : P.cellsOf e = 1) {B : Nat} (hB : P.bytesOf e = B)
    (h : Go.DataW.Trod enc P W base spare held t (.slice a len cap) d ps) : len * B ≤ 140737488351232 := Go.Proofs.YtbjecehiappdeacW.PrintWords.sized_ints hsz ht hd hu he hc hB h
