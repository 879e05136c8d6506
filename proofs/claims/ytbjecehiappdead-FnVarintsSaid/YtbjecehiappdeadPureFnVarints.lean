/- The law FnVarints returns true at every list of bytes: an integer is decoded from its varint, and a decoded varint is the encoding of its integer. No condition. -/
import Derived.Test.YtbjecehiappdeadQFnVarintsx4
import Derived.OpenShut
import Derived.Test.YtbjecehiappdeadWSized
namespace Go.Proofs.Ytbjecehiappdead.Pure
open Go.RowKit Go.Proofs.Ytbjecehiappdead.QFnVarints Go.Proofs.YtbjecehiappdeadW.PrintWords Go.Proofs.YtbjecehiappdeadW.PrintLast Go.Proofs.YtbjecehiappdeadW.PrintMore
set_option linter.unusedVariables false
set_option linter.unusedSimpArgs false

/-! ### Words on rounds and on lists -/
theorem ev_bind {α β : Type} {g : Nat → Option α} {f : Nat → α → Option β} {a : α} {r : β} (h : Ev g a) (k : Ev (fun n => f n a) r) : Ev (fun n => (g n).bind (f n)) r := Ev.bind h k
theorem ev_call {α β : Type} {o : Option α} {f : Nat → α → Option β} {a : α} {r : β} (h : o = some a) (k : Ev (fun n => f n a) r) : Ev (fun n => o.bind (f n)) r := by
  subst h; exact k
theorem ev_pos {α : Type} {c : Prop} [Decidable c] {f g : Nat → Option α} {r : α} (h : c) (e : Ev f r) : Ev (fun n => if c then f n else g n) r := by
  obtain ⟨K, hK⟩ := e
  exact ⟨K, fun n hn => by show (if c then f n else g n) = some r; rw [if_pos h]; exact hK n hn⟩
theorem ev_neg {α : Type} {c : Prop} [Decidable c] {f g : Nat → Option α} {r : α} (h : ¬ c) (e : Ev g r) : Ev (fun n => if c then f n else g n) r := by
  obtain ⟨K, hK⟩ := e
  exact ⟨K, fun n hn => by show (if c then f n else g n) = some r; rw [if_neg h]; exact hK n hn⟩
theorem ev_end {α : Type} {g : Nat → Option α} {r : α} (h : ∀ k, g (k + 1) = some r) : Ev g r := Ev.step (f := fun _ => some r) h (Ev.now r)
theorem ev_eq {α : Type} {g : Nat → Option α} {r r' : α} (h : Ev g r) (e : r = r') : Ev g r' := e ▸ h
theorem ev_some {α : Type} {g : Nat → Option α} {r : α} (h : ∀ k, g k = some r) : Ev g r := ⟨0, fun k _ => h k⟩
theorem wrap_ok {n : Int} (h : -9223372036854775808 ≤ n ∧ n ≤ 9223372036854775807) : wrap64 n = n := by unfold wrap64; omega
theorem rd_mid (pre : List Int) (x : Int) (suf : List Int) : rd (pre ++ x :: suf) (pre.length : Int) = x := by simp [rd]
theorem snoc_len (pre : List Int) (x : Int) : (((pre ++ [x]).length : Nat) : Int) = (pre.length : Int) + 1 := by simp
theorem mid_facts {l pre suf : List Int} {x : Int} (h : l = pre ++ x :: suf) (hl : l.length ≤ 35184372088832) :
    (pre.length : Int) < (l.length : Int) ∧ rd l (pre.length : Int) = x ∧ wrap64 ((pre.length : Int) + 1) = (((pre ++ [x]).length : Nat) : Int) ∧ l = (pre ++ [x]) ++ suf := by
  have hlen : l.length = pre.length + (suf.length + 1) := by rw [h]; simp
  refine ⟨by omega, by rw [h]; exact rd_mid pre x suf, ?_, by rw [h]; simp⟩
  rw [snoc_len]
  exact wrap_ok (by omega)
theorem end_facts {l pre : List Int} (h : l = pre ++ []) : l = pre ∧ ¬ (pre.length : Int) < (l.length : Int) := by
  rw [List.append_nil] at h
  subst h
  exact ⟨rfl, by omega⟩
/-- The marks m, m + 1, .. -/
def marks : Int → Nat → List Int
  | _, 0 => []
  | m, n + 1 => m :: marks (m + 1) n
theorem marks_length (m : Int) (n : Nat) : (marks m n).length = n := by
  induction n generalizing m with
  | zero => rfl
  | succ n ih => simp [marks, ih]

theorem tmod_pos_bounds (v m : Int) (hm : 0 < m) (hv : 0 ≤ v) : 0 ≤ Int.tmod v m ∧ Int.tmod v m < m := by
  rw [Int.tmod_eq_emod_of_nonneg hv]
  exact ⟨Int.emod_nonneg v (by omega), Int.emod_lt_of_pos v hm⟩

theorem wraps_i64 (n : Int) (h0 : 0 ≤ n) (h1 : n < 2 ^ 63) : IntKind.i64.wrap n = n := by rw [IntKind.wrap_i64]; omega
theorem and127 (x : Int) (h0 : 0 ≤ x) (h1 : x < 9223372036854775808) : Go.bits .and .i64 x 127 = x % 128 := bits_mask .i64 63 (by decide) wraps_i64 7 (by decide) x h0 h1
theorem or_turn (x y : Int) (hx : 0 ≤ x) (hx1 : x < 9223372036854775808) (hy : 0 ≤ y) (hy1 : y < 9223372036854775808) : Go.bits .or .i64 x y = Go.bits .or .i64 y x := by
  obtain ⟨a, rfl⟩ := Int.eq_ofNat_of_zero_le hx
  obtain ⟨b, rfl⟩ := Int.eq_ofNat_of_zero_le hy
  rw [(bits_nat .i64 63 (by decide) wraps_i64 a b (by omega) (by omega)).2, (bits_nat .i64 63 (by decide) wraps_i64 b a (by omega) (by omega)).2, Nat.or_comm]
theorem or_low (x y : Int) (i : Nat) (hx : 0 ≤ x) (hx1 : x < 9223372036854775808) (hm : x % 2 ^ i = 0) (hy : 0 ≤ y) (hy1 : y < 2 ^ i) (hy2 : y < 9223372036854775808) : Go.bits .or .i64 y x = y + x := by
  rw [or_turn y x hy hy2 hx hx1, bits_join .i64 63 (by decide) wraps_i64 i x y hx hm (by omega) hy hy1 (by omega)]
  omega
theorem or128 (y : Int) (h0 : 0 ≤ y) (h1 : y < 128) : Go.bits .or .i64 y 128 = y + 128 := or_low 128 y 7 (by omega) (by omega) (by decide) h0 (by omega) (by omega)

/-! ### A varint -/
def uvF : Nat → Int → List Int
  | 0, _ => []
  | f + 1, n => if n ≥ 128 then (n % 128 + 128) :: uvF f (n / 128) else [n]
theorem uvF_len (f : Nat) : ∀ n, (uvF f n).length ≤ f := by
  induction f with
  | zero => intro n; simp [uvF]
  | succ f ih =>
    intro n
    have := ih (n / 128)
    unfold uvF
    split
    · simp; omega
    · simp
def uvP (n : Int) : List Int := if 0 ≤ n ∧ n ≤ 1000000000000 then uvF 6 n else []
theorem uvP_len (n : Int) : (uvP n).length ≤ 6 := by
  unfold uvP
  split
  · exact uvF_len 6 n
  · simp

theorem specPut_loop : ∀ (f : Nat) (n : Int) (acc : List Int), 0 ≤ n → n < 128 ^ (f + 1) → n ≤ 1000000000000 → acc.length + f ≤ 70368744177664 → Ev (fun k => spec_AppendUvarint.l0 k n acc) (acc ++ uvF (f + 1) n) := by
  intro f
  induction f with
  | zero =>
    intro n acc h0 h1 h2 h3
    refine ev_end fun k => ?_
    simp only [spec_AppendUvarint.l0]
    rw [if_neg (by omega), if_pos (by omega), Int.emod_eq_of_lt h0 (by omega)]
    have h4 : ¬ n ≥ 128 := by omega
    simp [uvF, h4]
  | succ f ih =>
    intro n acc h0 h1 h2 h3
    by_cases hn : n > 127
    · have hn' : n ≥ 128 := by omega
      have hd : n / 128 < 128 ^ (f + 1) := by
        have e : (128 : Int) ^ (f + 1 + 1) = 128 ^ (f + 1) * 128 := Int.pow_succ ..
        rw [e] at h1
        omega
      refine Ev.step (fun k => ?_) (ev_eq (ih (n / 128) (acc ++ [n % 128 + 128]) (by omega) hd (by omega) (by simp; omega)) (by simp [uvF, hn']))
      simp only [spec_AppendUvarint.l0]
      rw [if_pos hn, if_pos (by omega), and127 n h0 (by omega), or128 _ (by omega) (by omega), Int.emod_eq_of_lt (by omega) (by omega)]
    · refine ev_end fun k => ?_
      have h4 : ¬ n ≥ 128 := by omega
      simp only [spec_AppendUvarint.l0]
      rw [if_neg hn, if_pos (by omega), Int.emod_eq_of_lt h0 (by omega)]
      simp [uvF, h4]
theorem specPut_ev (l : List Int) (n : Int) (hl : l.length ≤ 35184372088832) : Ev (fun k => spec_AppendUvarint.f k l n) (l ++ uvP n) := by
  unfold spec_AppendUvarint.f
  refine ev_call rfl ?_
  refine ev_pos (by simp; omega) ?_
  refine ev_call rfl ?_
  rw [List.nil_append]
  unfold spec_l1In.f uvP
  by_cases h1 : 0 ≤ n
  · by_cases h2 : n ≤ 1000000000000
    · refine ev_call (if_pos h1) ?_
      refine ev_pos (by simp [h2]) ?_
      rw [if_pos ⟨h1, h2⟩]
      exact specPut_loop 5 n l h1 (by omega) h2 (by omega)
    · refine ev_call (if_pos h1) ?_
      refine ev_neg (by simp [h2]) ?_
      rw [if_neg (fun h => h2 h.2), List.append_nil]
      exact Ev.now _
  · refine ev_call (if_neg h1) ?_
    refine ev_neg (by simp) ?_
    rw [if_neg (fun h => h1 h.1), List.append_nil]
    exact Ev.now _

theorem implPut_loop : ∀ (f : Nat) (n : Int) (acc : List Int), 0 ≤ n → n < 128 ^ (f + 1) → n ≤ 1000000000000 → acc.length + f ≤ 70368744177664 → Ev (fun k => impl_AppendUvarint.l0 k n acc) (acc ++ uvF (f + 1) n) := by
  intro f
  induction f with
  | zero =>
    intro n acc h0 h1 h2 h3
    refine ev_end fun k => ?_
    simp only [impl_AppendUvarint.l0]
    rw [if_neg (by omega), if_pos (by omega), Int.emod_eq_of_lt h0 (by omega)]
    have h4 : ¬ n ≥ 128 := by omega
    simp [uvF, h4]
  | succ f ih =>
    intro n acc h0 h1 h2 h3
    by_cases hn : n ≥ 128
    · have hd : n / 128 < 128 ^ (f + 1) := by
        have e : (128 : Int) ^ (f + 1 + 1) = 128 ^ (f + 1) * 128 := Int.pow_succ ..
        rw [e] at h1
        omega
      refine Ev.step (fun k => ?_) (ev_eq (ih (n / 128) (acc ++ [n % 128 + 128]) (by omega) hd (by omega) (by simp; omega)) (by simp [uvF, hn]))
      simp only [impl_AppendUvarint.l0]
      rw [if_pos hn, if_pos (by omega), Int.tdiv_eq_ediv_of_nonneg h0, Int.tmod_eq_emod_of_nonneg h0, wrap_ok (n := n / 128) (by omega), wrap_ok (n := n % 128 + 128) (by omega), Int.emod_eq_of_lt (a := n % 128 + 128) (by omega) (by omega)]
    · refine ev_end fun k => ?_
      simp only [impl_AppendUvarint.l0]
      rw [if_neg hn, if_pos (by omega), Int.emod_eq_of_lt h0 (by omega)]
      simp [uvF, hn]
theorem implPut_ev (l : List Int) (n : Int) (hl : l.length ≤ 35184372088832) : Ev (fun k => impl_AppendUvarint.f k l n) (l ++ uvP n) := by
  unfold impl_AppendUvarint.f
  refine ev_call rfl ?_
  refine ev_pos (by simp; omega) ?_
  refine ev_call rfl ?_
  rw [List.nil_append]
  unfold impl_InRange.f uvP
  by_cases h1 : 0 ≤ n
  · by_cases h2 : n ≤ 1000000000000
    · refine ev_call (if_pos h1) ?_
      refine ev_pos (by simp [h2]) ?_
      rw [if_pos ⟨h1, h2⟩]
      exact implPut_loop 5 n l h1 (by omega) h2 (by omega)
    · refine ev_call (if_pos h1) ?_
      refine ev_neg (by simp [h2]) ?_
      rw [if_neg (fun h => h2 h.2), List.append_nil]
      exact Ev.now _
  · refine ev_call (if_neg h1) ?_
    refine ev_neg (by simp) ?_
    rw [if_neg (fun h => h1 h.1), List.append_nil]
    exact Ev.now _

/-! ### A varint that is read -/
def rdF (b : List Int) (o : Int) : Nat → Int → Int → Int → Int × Int × Bool
  | 0, _, _, _ => (0, 0, false)
  | f + 1, k, m, n => if o + k < (b.length : Int) then (if rd b (o + k) < 128 then (if rd b (o + k) = 0 ∧ k > 0 then (0, 0, false) else if n + rd b (o + k) % 128 * m > 1000000000000 then (0, 0, false) else (n + rd b (o + k) % 128 * m, o + k + 1, true)) else rdF b o f (k + 1) (m * 128) (n + rd b (o + k) % 128 * m)) else (0, 0, false)
def readP (b : List Int) (o : Int) : Int × Int × Bool := if 0 ≤ o ∧ o < (b.length : Int) then rdF b o 6 0 1 0 else (0, 0, false)
theorem rd_byte {b : List Int} (hw : ∀ x ∈ b, 0 ≤ x ∧ x ≤ 255) (i : Int) : 0 ≤ rd b i ∧ rd b i ≤ 255 := by
  unfold rd
  rw [List.getD_eq_getElem?_getD]
  cases h : b[i.toNat]? with
  | none => simp
  | some x => exact hw x (List.mem_of_getElem? h)
theorem shl_at (k : Nat) (hk : k < 6) (y : Int) (h0 : 0 ≤ y) (h1 : y < 128) : shl .i64 y (wrap64 (7 * (k : Int))) = y * 128 ^ k := by
  rw [wrap_ok (by omega)]
  unfold shl
  rcases (by omega : k = 0 ∨ k = 1 ∨ k = 2 ∨ k = 3 ∨ k = 4 ∨ k = 5) with rfl | rfl | rfl | rfl | rfl | rfl <;> (rw [IntKind.wrap_i64]; simp [IntKind.bits]; try omega)
theorem pow_facts (k : Nat) (hk : k < 6) : (0 : Int) < 128 ^ k ∧ (128 : Int) ^ k ≤ 34359738368 ∧ (128 : Int) ^ (k + 1) = 128 ^ k * 128 := by
  refine ⟨Int.pow_pos (by omega), ?_, Int.pow_succ ..⟩
  rcases (by omega : k = 0 ∨ k = 1 ∨ k = 2 ∨ k = 3 ∨ k = 4 ∨ k = 5) with rfl | rfl | rfl | rfl | rfl | rfl <;> decide
theorem mul_small {y m : Int} (h0 : 0 ≤ y) (h1 : y ≤ 127) (hm : 0 < m) : 0 ≤ y * m ∧ y * m ≤ 127 * m := ⟨Int.mul_nonneg h0 (by omega), Int.mul_le_mul_of_nonneg_right h1 (by omega)⟩

theorem or_at (k : Nat) (hk : k < 6) (n x : Int) (h0 : 0 ≤ n) (h1 : n < 128 ^ k) (hx0 : 0 ≤ x) (hx : x ≤ 255) : Go.bits .or .i64 n (shl .i64 (Go.bits .and .i64 x 127) (wrap64 (7 * (k : Int)))) = n + x % 128 * 128 ^ k := by
  obtain ⟨hp, hp2, _⟩ := pow_facts k hk
  have hm := mul_small (y := x % 128) (m := 128 ^ k) (by omega) (by omega) hp
  rw [and127 x hx0 (by omega), shl_at k hk _ (by omega) (by omega)]
  refine or_low _ n (7 * k) hm.1 (by omega) ?_ h0 ?_ (by omega)
  · rw [Int.pow_mul]
    exact Int.mul_emod_left ..
  · rw [Int.pow_mul]
    exact h1
theorem specRead_loop (b : List Int) (o : Int) (hb : b.length ≤ 35184372088832) (ho : 0 ≤ o) (hw : ∀ x ∈ b, 0 ≤ x ∧ x ≤ 255) : ∀ (f k : Nat) (n : Int), k + f = 6 → 0 ≤ n → n < 128 ^ k → Ev (fun j => spec_ReadUvarint.l0 j b o n (k : Int)) (rdF b o f k (128 ^ k) n) := by
  intro f
  induction f with
  | zero =>
    intro k n hk h0 h1
    refine ev_end fun j => ?_
    simp only [spec_ReadUvarint.l0, rdF]
    rw [if_neg (by omega)]
  | succ f ih =>
    intro k n hk h0 h1
    obtain ⟨hp, hp2, hp3⟩ := pow_facts k (by omega)
    have hx := rd_byte hw (o + k)
    have hm := mul_small (y := rd b (o + k) % 128) (m := 128 ^ k) (by omega) (by omega) hp
    refine Ev.step (f := fun j => spec_ReadUvarint.j1 j b o n (k : Int) (decide (o ≥ wrap64 ((b.length : Int) - k)))) (fun j => ?_) ?_
    · simp only [spec_ReadUvarint.l0]
      rw [if_pos (by omega), if_neg (by omega)]
    rw [wrap_ok (n := (b.length : Int) - k) (by omega)]
    by_cases hlt : o + k < (b.length : Int)
    · have hd : decide (o ≥ (b.length : Int) - k) = false := by simp; omega
      rw [hd]
      have hor := or_at k (by omega) n (rd b (o + k)) h0 h1 hx.1 hx.2
      by_cases h128 : rd b (o + k) < 128
      · refine ev_end fun j => ?_
        simp only [spec_ReadUvarint.j1]
        rw [if_neg (by simp), wrap_ok (n := o + k) (by omega), wrap_ok (n := rd b (o + k)) (by omega), if_pos (by omega), if_pos hlt, if_pos (by rw [wrap_ok] <;> omega), if_pos h128, hor, wrap_ok (n := o + k + 1) (by omega)]
        unfold rdF
        rw [if_pos hlt, if_pos h128]
        by_cases hz : rd b (o + k) = 0
        · by_cases hk0 : (k : Int) > 0
          · rw [if_pos hz, if_pos hk0, if_pos ⟨hz, hk0⟩]
          · rw [if_pos hz, if_neg hk0, if_neg (show ¬ (rd b (o + k) = 0 ∧ (k : Int) > 0) from fun h => hk0 h.2)]
            split <;> rfl
        · rw [if_neg hz, if_neg (show ¬ (rd b (o + k) = 0 ∧ (k : Int) > 0) from fun h => hz h.1)]
          split <;> rfl
      · refine Ev.step (f := fun j => spec_ReadUvarint.l0 j b o (n + rd b (o + k) % 128 * 128 ^ k) ((k + 1 : Nat) : Int)) (fun j => ?_) ?_
        · simp only [spec_ReadUvarint.j1]
          rw [if_neg (by simp), wrap_ok (n := o + k) (by omega), wrap_ok (n := rd b (o + k)) (by omega), if_pos (by omega), if_pos hlt, if_pos (by rw [wrap_ok] <;> omega), if_neg h128, hor, wrap_ok (n := (k : Int) + 1) (by omega)]
          rfl
        · unfold rdF
          rw [if_pos hlt, if_neg h128]
          have h := ih (k + 1) (n + rd b (o + k) % 128 * 128 ^ k) (by omega) (by omega) (by omega)
          rw [hp3] at h
          exact h
    · have hd : decide (o ≥ (b.length : Int) - k) = true := by simp; omega
      rw [hd]
      refine ev_end fun j => ?_
      simp only [spec_ReadUvarint.j1]
      rw [if_pos trivial]
      unfold rdF
      rw [if_neg hlt]
theorem specRead_ev (b : List Int) (o : Int) (hb : b.length ≤ 35184372088832) (hw : ∀ x ∈ b, 0 ≤ x ∧ x ≤ 255) : Ev (fun j => spec_ReadUvarint.f j b o) (readP b o) := by
  by_cases ho : 0 ≤ o
  · unfold readP
    by_cases h : o < (b.length : Int)
    · rw [if_pos ⟨ho, h⟩]
      exact specRead_loop b o hb ho hw 6 0 0 rfl (by omega) (by decide)
    · rw [if_neg (fun h' => h h'.2)]
      refine ev_eq (specRead_loop b o hb ho hw 6 0 0 rfl (by omega) (by decide)) ?_
      unfold rdF
      rw [if_neg (by simpa using h)]
  · unfold readP
    rw [if_neg (fun h' => ho h'.1)]
    unfold spec_ReadUvarint.f
    refine Ev.step (f := fun j => spec_ReadUvarint.j1 j b o 0 0 true) (fun j => ?_) (ev_end fun j => ?_)
    · simp only [spec_ReadUvarint.l0]
      rw [if_pos (by omega), if_pos (by omega)]
    · simp only [spec_ReadUvarint.j1]
      rw [if_pos trivial]

theorem add_at (k : Nat) (hk : k < 6) (n x : Int) (h0 : 0 ≤ n) (h1 : n < 128 ^ k) (hx0 : 0 ≤ x) (hx : x ≤ 255) : wrap64 (n + shl .i64 (Int.tmod x 128) (wrap64 (7 * (k : Int)))) = n + x % 128 * 128 ^ k := by
  obtain ⟨hp, hp2, _⟩ := pow_facts k hk
  have hm := mul_small (y := x % 128) (m := 128 ^ k) (by omega) (by omega) hp
  rw [Int.tmod_eq_emod_of_nonneg hx0, shl_at k hk _ (by omega) (by omega), wrap_ok (by omega)]
theorem implRead_loop (b : List Int) (o : Int) (hb : b.length ≤ 35184372088832) (ho : 0 ≤ o) (ho2 : o < (b.length : Int)) (hw : ∀ x ∈ b, 0 ≤ x ∧ x ≤ 255) : ∀ (f k : Nat) (n : Int), k + f = 6 → 0 ≤ n → n < 128 ^ k → Ev (fun j => impl_ReadUvarint.l0 j b o n (k : Int)) (rdF b o f k (128 ^ k) n) := by
  intro f
  induction f with
  | zero =>
    intro k n hk h0 h1
    refine Ev.step (f := fun j => impl_ReadUvarint.j1 j b o n (k : Int) false) (fun j => ?_) (ev_end fun j => ?_)
    · simp only [impl_ReadUvarint.l0]
      rw [if_neg (by omega)]
    · simp only [impl_ReadUvarint.j1, rdF]
      rw [if_neg (by simp)]
  | succ f ih =>
    intro k n hk h0 h1
    obtain ⟨hp, hp2, hp3⟩ := pow_facts k (by omega)
    have hx := rd_byte hw (o + k)
    have hm := mul_small (y := rd b (o + k) % 128) (m := 128 ^ k) (by omega) (by omega) hp
    refine Ev.step (f := fun j => impl_ReadUvarint.j1 j b o n (k : Int) (decide (wrap64 (o + k) < (b.length : Int)))) (fun j => ?_) ?_
    · simp only [impl_ReadUvarint.l0]
      rw [if_pos (by omega)]
    rw [wrap_ok (n := o + k) (by omega)]
    by_cases hlt : o + k < (b.length : Int)
    · have hd : decide (o + k < (b.length : Int)) = true := by simp; omega
      rw [hd]
      have hor := add_at k (by omega) n (rd b (o + k)) h0 h1 hx.1 hx.2
      by_cases h128 : rd b (o + k) < 128
      · refine ev_end fun j => ?_
        simp only [impl_ReadUvarint.j1]
        rw [if_pos trivial, wrap_ok (n := o + k) (by omega), wrap_ok (n := rd b (o + k)) (by omega), if_pos (by omega), if_pos hlt, if_pos (by rw [wrap_ok] <;> omega), if_pos h128, hor, wrap_ok (n := o + k + 1) (by omega)]
        unfold rdF
        rw [if_pos hlt, if_pos h128]
        by_cases hk0 : (k : Int) > 0
        · by_cases hz : rd b (o + k) = 0
          · rw [if_pos hk0, if_pos hz, if_pos ⟨hz, hk0⟩]
          · rw [if_pos hk0, if_neg hz, if_neg (show ¬ (rd b (o + k) = 0 ∧ (k : Int) > 0) from fun h => hz h.1)]
            split <;> rfl
        · rw [if_neg hk0, if_neg (show ¬ (rd b (o + k) = 0 ∧ (k : Int) > 0) from fun h => hk0 h.2)]
          split <;> rfl
      · refine Ev.step (f := fun j => impl_ReadUvarint.l0 j b o (n + rd b (o + k) % 128 * 128 ^ k) ((k + 1 : Nat) : Int)) (fun j => ?_) ?_
        · simp only [impl_ReadUvarint.j1]
          rw [if_pos trivial, wrap_ok (n := o + k) (by omega), wrap_ok (n := rd b (o + k)) (by omega), if_pos (by omega), if_pos hlt, if_pos (by rw [wrap_ok] <;> omega), if_neg h128, hor, wrap_ok (n := (k : Int) + 1) (by omega)]
          rfl
        · unfold rdF
          rw [if_pos hlt, if_neg h128]
          have h := ih (k + 1) (n + rd b (o + k) % 128 * 128 ^ k) (by omega) (by omega) (by omega)
          rw [hp3] at h
          exact h
    · have hd : decide (o + k < (b.length : Int)) = false := by simp; omega
      rw [hd]
      refine ev_end fun j => ?_
      simp only [impl_ReadUvarint.j1]
      rw [if_neg (by simp)]
      unfold rdF
      rw [if_neg hlt]
theorem implRead_ev (b : List Int) (o : Int) (hb : b.length ≤ 35184372088832) (hw : ∀ x ∈ b, 0 ≤ x ∧ x ≤ 255) : Ev (fun j => impl_ReadUvarint.f j b o) (readP b o) := by
  unfold impl_ReadUvarint.f impl_InRange.f readP
  rw [wrap_ok (n := (b.length : Int) - 1) (by omega)]
  by_cases ho : 0 ≤ o
  · refine ev_call (if_pos ho) ?_
    by_cases h : o < (b.length : Int)
    · refine ev_pos (by simp; omega) ?_
      rw [if_pos ⟨ho, h⟩]
      exact implRead_loop b o hb ho h hw 6 0 0 rfl (by omega) (by decide)
    · refine ev_neg (by simp; omega) ?_
      rw [if_neg (fun h' => h h'.2)]
      exact Ev.now _
  · refine ev_call (if_neg ho) ?_
    refine ev_neg (by simp) ?_
    rw [if_neg (fun h' => ho h'.1)]
    exact Ev.now _

theorem rdF_ok (b : List Int) (o : Int) (ho : 0 ≤ o) (hw : ∀ x ∈ b, 0 ≤ x ∧ x ≤ 255) : ∀ (f : Nat) (k m n : Int), 0 ≤ k → 0 ≤ m → 0 ≤ n → (rdF b o f k m n).2.2 = true → 0 ≤ (rdF b o f k m n).1 ∧ (rdF b o f k m n).1 ≤ 1000000000000 ∧ o < (rdF b o f k m n).2.1 ∧ (rdF b o f k m n).2.1 ≤ (b.length : Int) := by
  intro f
  induction f with
  | zero => intro k m n _ _ _ h; simp [rdF] at h
  | succ f ih =>
    intro k m n hk hm hn h
    have hx := rd_byte hw (o + k)
    have hy : 0 ≤ rd b (o + k) % 128 * m := Int.mul_nonneg (by omega) hm
    unfold rdF at h ⊢
    by_cases hlt : o + k < (b.length : Int)
    · rw [if_pos hlt] at h ⊢
      by_cases h128 : rd b (o + k) < 128
      · rw [if_pos h128] at h ⊢
        by_cases hz : rd b (o + k) = 0 ∧ k > 0
        · rw [if_pos hz] at h
          simp at h
        · rw [if_neg hz] at h ⊢
          by_cases hbig : n + rd b (o + k) % 128 * m > 1000000000000
          · rw [if_pos hbig] at h
            simp at h
          · rw [if_neg hbig]
            exact ⟨by show 0 ≤ n + _; omega, by show n + _ ≤ _; omega, by show o < o + k + 1; omega, by show o + k + 1 ≤ _; omega⟩
      · rw [if_neg h128] at h ⊢
        exact ih _ _ _ (by omega) (by omega) (by omega) h
    · rw [if_neg hlt] at h
      simp at h
theorem readP_ok (b : List Int) (o : Int) (hw : ∀ x ∈ b, 0 ≤ x ∧ x ≤ 255) (h : (readP b o).2.2 = true) : 0 ≤ (readP b o).1 ∧ (readP b o).1 ≤ 1000000000000 ∧ o < (readP b o).2.1 ∧ (readP b o).2.1 ≤ (b.length : Int) ∧ 0 ≤ o := by
  unfold readP at h ⊢
  by_cases ho : 0 ≤ o ∧ o < (b.length : Int)
  · rw [if_pos ho] at h ⊢
    obtain ⟨h1, h2, h3, h4⟩ := rdF_ok b o ho.1 hw 6 0 1 0 (by omega) (by omega) (by omega) h
    exact ⟨h1, h2, h3, h4, ho.1⟩
  · rw [if_neg ho] at h
    simp at h

/-! ### A varint that was put is read -/
theorem uvF_pos (f : Nat) (n : Int) : 1 ≤ (uvF (f + 1) n).length := by
  unfold uvF
  split <;> simp
theorem rdF_last (o : Int) (f : Nat) (p post : List Int) (k m n0 v : Int) (hp : (p.length : Int) = o + k) (h0 : 0 ≤ v) (h1 : v < 128) (hb : n0 + v * m ≤ 1000000000000) (hv : 0 < v ∨ k = 0) : rdF (p ++ v :: post) o (f + 1) k m n0 = (n0 + v * m, o + k + 1, true) := by
  have hr : rd (p ++ v :: post) (o + k) = v := by rw [← hp]; exact rd_mid p v post
  unfold rdF
  rw [hr, Int.emod_eq_of_lt h0 h1, if_pos (by simp; omega), if_pos h1, if_neg (by omega), if_neg (by omega)]
theorem split128 (v m : Int) : v % 128 * m + v / 128 * (m * 128) = v * m := by
  have e : v = v % 128 + 128 * (v / 128) := by omega
  have h : (v % 128 + 128 * (v / 128)) * m = v % 128 * m + v / 128 * (m * 128) := by grind
  rw [← h, ← e]
theorem rdF_put (o : Int) : ∀ (f : Nat) (p post : List Int) (k m n0 v : Int), (p.length : Int) = o + k → 0 ≤ k → 0 < m → 0 ≤ n0 → 0 ≤ v → v < 128 ^ (f + 1) → n0 + v * m ≤ 1000000000000 → (0 < v ∨ k = 0) → rdF (p ++ (uvF (f + 1) v ++ post)) o (f + 1) k m n0 = (n0 + v * m, o + k + ((uvF (f + 1) v).length : Int), true) := by
  intro f
  induction f with
  | zero =>
    intro p post k m n0 v hp hk hm hn h0 h1 hb hv
    have h2 : ¬ v ≥ 128 := by omega
    have e : uvF (0 + 1) v = [v] := by simp [uvF, h2]
    rw [e, List.singleton_append, rdF_last o 0 p post k m n0 v hp h0 (by omega) hb hv]
    simp
  | succ f ih =>
    intro p post k m n0 v hp hk hm hn h0 h1 hb hv
    by_cases h2 : v ≥ 128
    · have e : uvF (f + 1 + 1) v = (v % 128 + 128) :: uvF (f + 1) (v / 128) := by
        rw [uvF, if_pos h2]
      have hpw : (128 : Int) ^ (f + 1 + 1) = 128 ^ (f + 1) * 128 := Int.pow_succ ..
      have hr : rd (p ++ (v % 128 + 128) :: (uvF (f + 1) (v / 128) ++ post)) (o + k) = v % 128 + 128 := by rw [← hp]; exact rd_mid ..
      have hsp := split128 v m
      have hv2 : v % 128 * m ≥ 0 := Int.mul_nonneg (by omega) (by omega)
      have hi := ih (p ++ [v % 128 + 128]) post (k + 1) (m * 128) (n0 + v % 128 * m) (v / 128) (by simp; omega) (by omega) (by omega) (by omega) (by omega) (by omega) (by omega) (by omega)
      rw [List.append_assoc, List.singleton_append] at hi
      rw [e, List.cons_append, rdF, hr, if_pos (by simp; omega), if_neg (by omega)]
      have e2 : (v % 128 + 128) % 128 = v % 128 := by omega
      rw [e2, hi]
      simp only [Prod.mk.injEq, List.length_cons, and_true]
      omega
    · have e : uvF (f + 1 + 1) v = [v] := by rw [uvF, if_neg h2]
      rw [e, List.singleton_append, rdF_last o (f + 1) p post k m n0 v hp h0 (by omega) hb hv]
      simp
theorem readP_put (l post : List Int) (n : Int) (h0 : 0 ≤ n) (h1 : n ≤ 1000000000000) : readP (l ++ (uvP n ++ post)) (l.length : Int) = (n, (l.length : Int) + ((uvP n).length : Int), true) := by
  have hu : uvP n = uvF 6 n := if_pos ⟨h0, h1⟩
  have hp : 1 ≤ (uvF 6 n).length := uvF_pos 5 n
  rw [hu]
  unfold readP
  rw [if_pos ⟨by omega, by simp; omega⟩, rdF_put (l.length : Int) 5 l post 0 1 0 n (by omega) (by omega) (by omega) (by omega) h0 (by omega) (by omega) (.inr rfl)]
  simp
theorem rdF_no (b : List Int) (o : Int) : ∀ (f : Nat) (k m n : Int), (rdF b o f k m n).2.2 = false → rdF b o f k m n = (0, 0, false) := by
  intro f
  induction f with
  | zero => intro k m n _; rfl
  | succ f ih =>
    intro k m n h
    unfold rdF at h ⊢
    split
    · rename_i h1
      rw [if_pos h1] at h
      split
      · rename_i h2
        rw [if_pos h2] at h
        split
        · rfl
        · rename_i h3
          rw [if_neg h3] at h
          split
          · rfl
          · rename_i h4
            rw [if_neg h4] at h
            simp at h
      · rename_i h2
        rw [if_neg h2] at h
        exact ih _ _ _ h
    · rfl
theorem readP_no (b : List Int) (o : Int) (h : (readP b o).2.2 = false) : readP b o = (0, 0, false) := by
  unfold readP at h ⊢
  split
  · rename_i h1
    rw [if_pos h1] at h
    exact rdF_no b o 6 0 1 0 h
  · rfl

/-! ### What is read is a varint -/
theorem mid_split (b : List Int) (i : Int) (h0 : 0 ≤ i) (h1 : i < (b.length : Int)) : b.drop i.toNat = rd b i :: b.drop (i + 1).toNat := by
  have hlt : i.toNat < b.length := by omega
  have e : (i + 1).toNat = i.toNat + 1 := by omega
  rw [e, List.drop_eq_getElem_cons hlt]
  congr 1
  unfold rd
  rw [List.getD_eq_getElem?_getD, List.getElem?_eq_getElem hlt]
  rfl
theorem rdF_is (b : List Int) (o : Int) (ho : 0 ≤ o) (hw : ∀ x ∈ b, 0 ≤ x ∧ x ≤ 255) : ∀ (f : Nat) (k m n0 : Int), 0 ≤ k → (rdF b o f k m n0).2.2 = true → ∃ v post, 0 ≤ v ∧ (rdF b o f k m n0).1 = n0 + v * m ∧ (0 < v ∨ k = 0) ∧ b.drop (o + k).toNat = uvF f v ++ post ∧ (rdF b o f k m n0).2.1 = o + k + ((uvF f v).length : Int) := by
  intro f
  induction f with
  | zero => intro k m n0 _ h; simp [rdF] at h
  | succ f ih =>
    intro k m n0 hk h
    have hx := rd_byte hw (o + k)
    unfold rdF at h ⊢
    by_cases hlt : o + k < (b.length : Int)
    · rw [if_pos hlt] at h ⊢
      have hd := mid_split b (o + k) (by omega) hlt
      by_cases h128 : rd b (o + k) < 128
      · rw [if_pos h128] at h ⊢
        by_cases hz : rd b (o + k) = 0 ∧ k > 0
        · rw [if_pos hz] at h
          simp at h
        · rw [if_neg hz] at h ⊢
          by_cases hbig : n0 + rd b (o + k) % 128 * m > 1000000000000
          · rw [if_pos hbig] at h
            simp at h
          · rw [if_neg hbig]
            have h2 : ¬ rd b (o + k) ≥ 128 := by omega
            refine ⟨rd b (o + k), b.drop (o + k + 1).toNat, hx.1, ?_, by omega, ?_, ?_⟩
            · show n0 + rd b (o + k) % 128 * m = _
              rw [Int.emod_eq_of_lt hx.1 h128]
            · rw [hd, uvF, if_neg h2]
              rfl
            · rw [uvF, if_neg h2]
              simp
      · rw [if_neg h128] at h ⊢
        obtain ⟨v, post, v0, e1, hv, e2, e3⟩ := ih (k + 1) (m * 128) (n0 + rd b (o + k) % 128 * m) (by omega) h
        have hv2 : 0 < v := by omega
        refine ⟨rd b (o + k) % 128 + 128 * v, post, by omega, ?_, .inl (by omega), ?_, ?_⟩
        · rw [e1]
          grind
        · have e4 : o + (k + 1) = o + k + 1 := by omega
          rw [e4] at e2
          rw [hd, e2, uvF, if_pos (by omega)]
          have e5 : (rd b (o + k) % 128 + 128 * v) % 128 + 128 = rd b (o + k) := by omega
          have e6 : (rd b (o + k) % 128 + 128 * v) / 128 = v := by omega
          rw [e5, e6]
          rfl
        · rw [e3, uvF, if_pos (by omega)]
          have e6 : (rd b (o + k) % 128 + 128 * v) / 128 = v := by omega
          rw [e6]
          simp
          omega
    · rw [if_neg hlt] at h
      simp at h
theorem readP_is (b : List Int) (o : Int) (hw : ∀ x ∈ b, 0 ≤ x ∧ x ≤ 255) (h : (readP b o).2.2 = true) : uvP (readP b o).1 = (b.take (readP b o).2.1.toNat).drop o.toNat := by
  obtain ⟨h1, h2, h3, h4, h5⟩ := readP_ok b o hw h
  have hc : 0 ≤ o ∧ o < (b.length : Int) := ⟨h5, by omega⟩
  have e : readP b o = rdF b o 6 0 1 0 := if_pos hc
  rw [e] at h h1 h2 h3 h4 ⊢
  obtain ⟨v, post, v0, e1, hv, e2, e3⟩ := rdF_is b o h5 hw 6 0 1 0 (by omega) h
  have e4 : (rdF b o 6 0 1 0).1 = v := by rw [e1]; omega
  rw [e4] at h1 h2 ⊢
  have e5 : (rdF b o 6 0 1 0).2.1.toNat = o.toNat + (uvF 6 v).length := by rw [e3]; omega
  have e6 : uvP v = uvF 6 v := if_pos ⟨h1, h2⟩
  have e7 : (o + 0).toNat = o.toNat := by omega
  rw [e7] at e2
  rw [e5, e6, List.drop_take, e2, Nat.add_sub_cancel_left, List.take_left]

/-! ### The cursor of the draws -/
theorem and255_range (x : Int) : 0 ≤ Go.bits .and .i64 x 255 ∧ Go.bits .and .i64 x 255 ≤ 255 := by
  have h : ∀ a : BitVec 64, (a &&& (255#64)).toNat ≤ 255 := fun a => by rw [BitVec.toNat_and]; exact Nat.and_le_right
  have h2 := h (BitVec.ofInt 64 x)
  have e : Go.bits .and .i64 x 255 = IntKind.i64.wrap (((BitVec.ofInt 64 x &&& (255#64)).toNat : Nat) : Int) := rfl
  rw [e, IntKind.wrap_i64]
  omega
theorem byte_some (b : List Int) (i h : Int) (hb : b.length ≤ 1048576) (hi : 0 ≤ i) : ∃ x i' h', spec_l1Byte.f b i h = some (x, i', h') ∧ 0 ≤ x ∧ x ≤ 255 ∧ 0 ≤ i' := by
  unfold spec_l1Byte.f
  by_cases h1 : i < (b.length : Int)
  · rw [if_pos h1, if_pos hi]
    exact ⟨_, _, _, rfl, (and255_range _).1, (and255_range _).2, by rw [wrap_ok] <;> omega⟩
  · rw [if_neg h1]
    exact ⟨_, _, _, rfl, (and255_range _).1, (and255_range _).2, hi⟩
theorem below_some (b : List Int) (i h n : Int) (hb : b.length ≤ 1048576) (hi : 0 ≤ i) : ∃ x i' h', spec_l1Below.f b i h n = some (x, i', h') ∧ 0 ≤ x ∧ (0 < n → x < n) ∧ (n ≤ 0 → x = 0) ∧ 0 ≤ i' := by
  unfold spec_l1Below.f
  by_cases h1 : n ≤ 0
  · rw [if_pos h1]
    exact ⟨_, _, _, rfl, by omega, fun h => by omega, fun _ => rfl, hi⟩
  · rw [if_neg h1]
    have h0 : ¬ n = 0 := by omega
    by_cases h2 : n ≤ 256
    · rw [if_pos h2]
      obtain ⟨x, i1, k1, e1, x0, x1, j1⟩ := byte_some b i h hb hi
      rw [e1]
      simp only [Option.bind_some, if_neg h0]
      have ht := tmod_pos_bounds x n (by omega) x0
      exact ⟨_, _, _, rfl, ht.1, fun _ => ht.2, fun h => by omega, j1⟩
    · rw [if_neg h2]
      obtain ⟨x, i1, k1, e1, x0, x1, j1⟩ := byte_some b i h hb hi
      obtain ⟨y, i2, k2, e2, y0, y1, j2⟩ := byte_some b i1 k1 hb j1
      obtain ⟨z, i3, k3, e3, z0, z1, j3⟩ := byte_some b i2 k2 hb j2
      rw [e1]
      simp only [Option.bind_some, e2, e3, if_neg h0]
      rw [wrap_ok (n := x * 65536) (by omega), wrap_ok (n := y * 256) (by omega), wrap_ok (n := x * 65536 + y * 256) (by omega), wrap_ok (by omega)]
      have ht := tmod_pos_bounds (x * 65536 + y * 256 + z) n (by omega) (by omega)
      exact ⟨_, _, _, rfl, ht.1, fun _ => ht.2, fun h => by omega, j3⟩

theorem once_some (b : List Int) (i h n : Int) (hb : b.length ≤ 1048576) (hi : 0 ≤ i) : ∃ t i' h', spec_l1Once.f b i h n = some (t, i', h') ∧ 0 ≤ i' := by
  obtain ⟨x, i1, k1, e1, _, _, _, j1⟩ := below_some b i h n hb hi
  unfold spec_l1Once.f
  rw [e1]
  exact ⟨_, _, _, rfl, j1⟩

theorem pick_some (b : List Int) (i h : Int) (l : List Int) (hb : b.length ≤ 1048576) (hi : 0 ≤ i) (hl : 0 < l.length) : ∃ x i' h', spec_l1Int.f b i h l = some (x, i', h') ∧ x ∈ l ∧ 0 ≤ i' := by
  obtain ⟨x, i1, k1, e1, x0, x1, _, j1⟩ := below_some b i h (l.length : Int) hb hi
  have x2 := x1 (by omega)
  unfold spec_l1Int.f
  rw [e1]
  simp only [Option.bind_some, if_pos x0, if_pos x2]
  refine ⟨_, _, _, rfl, ?_, j1⟩
  unfold rd
  rw [List.getD_eq_getElem?_getD, List.getElem?_eq_getElem (by omega)]
  exact List.getElem_mem ..


theorem new_loop (l : List Int) (hl : l.length ≤ 1048576) : ∀ (n : Nat) (i h : Int), 0 ≤ i → (4000 : Int) - i ≤ n → ∃ h', Ev (fun k => spec_l1New.l0 k l h i) (l, 0, h') := by
  intro n
  induction n with
  | zero =>
    intro i h h0 h1
    refine ⟨h, ev_end fun k => ?_⟩
    simp only [spec_l1New.l0]
    by_cases h2 : i < (l.length : Int)
    · rw [if_pos h2, if_neg (by omega)]
    · rw [if_neg h2]
  | succ n ih =>
    intro i h h0 h1
    by_cases h2 : i < (l.length : Int)
    · by_cases h3 : i < 4000
      · obtain ⟨h', e⟩ := ih (i + 1) (Go.bits .and .i64 (wrap64 ((wrap64 ((wrap64 (h * 137)) + (wrap64 (rd l i)))) + 11)) 1073741823) (by omega) (by omega)
        refine ⟨h', Ev.step (fun k => ?_) e⟩
        simp only [spec_l1New.l0]
        rw [if_pos h2, if_pos h3, if_pos h0, wrap_ok (n := i + 1) (by omega)]
      · refine ⟨h, ev_end fun k => ?_⟩
        simp only [spec_l1New.l0]
        rw [if_pos h2, if_neg h3]
    · refine ⟨h, ev_end fun k => ?_⟩
      simp only [spec_l1New.l0]
      rw [if_neg h2]
theorem new_ev (l : List Int) (hl : l.length ≤ 1048576) : ∃ h, Ev (fun k => spec_l1New.f k l) (l, 0, h) := new_loop l hl 4000 0 _ (by omega) (by omega)

theorem bytes_loop (b : List Int) (n : Int) (hb : b.length ≤ 1048576) (hn : n ≤ 1048576) : ∀ (m : Nat) (j i h : Int) (acc : List Int), 0 ≤ j → j + m = n → 0 ≤ i → acc.length = j → (∀ x ∈ acc, 0 ≤ x ∧ x ≤ 255) → ∃ r i' h', Ev (fun k => spec_l1Bytes.l0 k n acc j b i h) (r, i', h') ∧ (r.length : Int) = n ∧ (∀ x ∈ r, 0 ≤ x ∧ x ≤ 255) ∧ 0 ≤ i' := by
  intro m
  induction m with
  | zero =>
    intro j i h acc hj hm hi ha hw
    refine ⟨acc, i, h, ev_end fun k => ?_, by omega, hw, hi⟩
    simp only [spec_l1Bytes.l0]
    rw [if_neg (by omega)]
  | succ m ih =>
    intro j i h acc hj hm hi ha hw
    obtain ⟨x, i1, k1, e1, x0, x1, j1⟩ := byte_some b i h hb hi
    obtain ⟨r, i2, k2, e2, h2⟩ := ih (j + 1) i1 k1 (acc ++ [x]) (by omega) (by omega) j1 (by simp; omega) (by
      intro y hy
      rcases List.mem_append.1 hy with h | h
      · exact hw y h
      · simp at h; omega)
    refine ⟨r, i2, k2, Ev.step (fun k => ?_) e2, h2⟩
    simp only [spec_l1Bytes.l0]
    rw [if_pos (by omega), e1]
    simp only [Option.bind_some]
    rw [if_pos (by omega), wrap_ok (n := j + 1) (by omega), Int.emod_eq_of_lt x0 (by omega)]
theorem bytes_ev (b : List Int) (i h n : Int) (hb : b.length ≤ 1048576) (h0 : 0 ≤ n) (hn : n ≤ 1048576) (hi : 0 ≤ i) : ∃ r i' h', Ev (fun k => spec_l1Bytes.f k b i h n) (r, i', h') ∧ (r.length : Int) = n ∧ (∀ x ∈ r, 0 ≤ x ∧ x ≤ 255) ∧ 0 ≤ i' := bytes_loop b n hb hn n.toNat 0 i h [] (by omega) (by omega) hi rfl (by simp)

theorem num_some (b : List Int) (i h : Int) (hb : b.length ≤ 1048576) (hi : 0 ≤ i) : ∃ v i' h', spec_l1Num.f b i h = some (v, i', h') ∧ 0 ≤ v ∧ v ≤ 1000000000000 ∧ 0 ≤ i' := by
  unfold spec_l1Num.f
  obtain ⟨t, i1, k1, e1, t0, t1, _, j1⟩ := below_some b i h 4 hb hi
  rw [e1]
  simp only [Option.bind_some]
  by_cases h0 : t = 0
  · rw [if_pos h0]
    obtain ⟨x, i2, k2, e2, x0, x1, _, j2⟩ := below_some b i1 k1 2000 hb j1
    have x2 := x1 (by omega)
    rw [e2]
    exact ⟨_, _, _, rfl, by simp only []; omega, by simp only []; omega, j2⟩
  · rw [if_neg h0]
    by_cases h1 : t = 1
    · rw [if_pos h1]
      obtain ⟨x, i2, k2, e2, hx, j2⟩ := pick_some b i1 k1 [0, 1, 127, 128, 2147483646, 2147483647, 1000000000000] hb j1 (by simp)
      rw [e2]
      refine ⟨_, _, _, rfl, ?_, ?_, j2⟩ <;> (simp at hx; rcases hx with rfl | rfl | rfl | rfl | rfl | rfl | rfl <;> simp)
    · rw [if_neg h1]
      by_cases h2 : t = 2
      · rw [if_pos h2]
        obtain ⟨x, i3, k3, e3, x0, x1, _, j3⟩ := below_some b i1 k1 1000000 hb j1
        obtain ⟨y, i4, k4, e4, y0, y1, _, j4⟩ := below_some b i3 k3 1000000 hb j3
        have x2 := x1 (by omega)
        have y2 := y1 (by omega)
        rw [e3]
        simp only [Option.bind_some, e4]
        have hm : 0 ≤ x * y := Int.mul_nonneg x0 y0
        have hm2 : x * y ≤ 1000000 * 1000000 := Int.mul_le_mul (by omega) (by omega) y0 (by omega)
        refine ⟨_, _, _, rfl, ?_, ?_, j4⟩ <;> (rw [wrap_ok] <;> omega)
      · rw [if_neg h2]
        obtain ⟨x, i2, k2, e2, x0, x1, _, j2⟩ := below_some b i1 k1 20 hb j1
        have x2 := x1 (by omega)
        rw [e2]
        exact ⟨_, _, _, rfl, by simp only []; omega, by simp only []; omega, j2⟩

theorem odd_some (b : List Int) (i h : Int) (hb : b.length ≤ 1048576) (hi : 0 ≤ i) : ∃ v i' h', spec_l1Odd.f b i h = some (v, i', h') ∧ -9223372036854775808 ≤ v ∧ v ≤ 9223372036854775807 ∧ 0 ≤ i' := by
  unfold spec_l1Odd.f
  obtain ⟨x, i2, k2, e2, hx, j2⟩ := pick_some b i h [(-1), 0, 1, 2, 255, 256, 65535, 2147483647, 2147483648, 4294967295, 4294967296, (-2147483648), 9223372036854775807, (-9223372036854775808)] hb hi (by simp)
  rw [e2]
  refine ⟨_, _, _, rfl, ?_, ?_, j2⟩ <;> (simp at hx; omega)
theorem raw_some (b : List Int) (i h : Int) (hb : b.length ≤ 1048576) (hi : 0 ≤ i) : ∃ v i' h', spec_l1Raw.f b i h = some (v, i', h') ∧ -9223372036854775808 ≤ v ∧ v ≤ 9223372036854775807 ∧ 0 ≤ i' := by
  unfold spec_l1Raw.f
  obtain ⟨t, i1, k1, e1, j1⟩ := once_some b i h 2 hb hi
  rw [e1]
  simp only [Option.bind_some]
  by_cases ht : t = true
  · rw [if_pos ht]
    obtain ⟨x, i2, k2, e2, x0, x1, j2⟩ := odd_some b i1 k1 hb j1
    rw [e2]
    exact ⟨_, _, _, rfl, x0, x1, j2⟩
  · rw [if_neg ht]
    obtain ⟨x, i2, k2, e2, hx, j2⟩ := pick_some b i1 k1 [(-1), 1000000000000, 1000000000001] hb j1 (by simp)
    rw [e2]
    refine ⟨_, _, _, rfl, ?_, ?_, j2⟩ <;> (simp at hx; rcases hx with rfl | rfl | rfl <;> simp)
theorem one_some (b : List Int) (i h : Int) (hb : b.length ≤ 1048576) (hi : 0 ≤ i) : ∃ v i' h', spec_l1One.f b i h = some (v, i', h') ∧ -9223372036854775808 ≤ v ∧ v ≤ 9223372036854775807 ∧ 0 ≤ i' := by
  unfold spec_l1One.f
  obtain ⟨t, i1, k1, e1, j1⟩ := once_some b i h 6 hb hi
  rw [e1]
  simp only [Option.bind_some]
  by_cases ht : t = true
  · rw [if_pos ht]
    obtain ⟨x, i2, k2, e2, x0, x1, j2⟩ := raw_some b i1 k1 hb j1
    rw [e2]
    exact ⟨_, _, _, rfl, x0, x1, j2⟩
  · rw [if_neg ht]
    obtain ⟨x, i2, k2, e2, x0, x1, j2⟩ := num_some b i1 k1 hb j1
    rw [e2]
    exact ⟨_, _, _, rfl, by simp only []; omega, by simp only []; omega, j2⟩

theorem sbX_loop (a b : List Int) (hl : a.length ≤ 35184372088832) : ∀ (s1 s2 p1 p2 : List Int), a = p1 ++ s1 → b = p2 ++ s2 → p1.length = p2.length → s1.length = s2.length → Ev (fun k => laws_sameBytes.l0 k a b (p1.length : Int)) (decide (s1 = s2)) := by
  intro s1
  induction s1 with
  | nil =>
    intro s2 p1 p2 ha hb hp hs
    obtain rfl : s2 = [] := List.eq_nil_of_length_eq_zero hs.symm
    obtain ⟨_, h2⟩ := end_facts ha
    refine ev_end fun k => ?_
    simp only [laws_sameBytes.l0]
    rw [if_neg h2]
    simp
  | cons x s1 ih =>
    intro s2 p1 p2 ha hb hp hs
    cases s2 with
    | nil => simp at hs
    | cons y s2 =>
    obtain ⟨h1, h2, h3, h4⟩ := mid_facts ha hl
    have hb1 : b.length = p2.length + (s2.length + 1) := by rw [hb]; simp
    have hb2 : rd b (p1.length : Int) = y := by rw [hp, hb]; exact rd_mid p2 y s2
    have hb3 : b = (p2 ++ [y]) ++ s2 := by rw [hb]; simp
    by_cases hxy : x = y
    · refine Ev.step (fun k => ?_) (ev_eq (ih s2 (p1 ++ [x]) (p2 ++ [y]) h4 hb3 (by simp [hp]) (by simpa using hs)) (by simp [hxy]))
      simp only [laws_sameBytes.l0]
      rw [if_pos h1, if_pos (by omega), if_pos (by omega), h2, hb2, if_pos hxy, h3]
    · refine ev_end fun k => ?_
      simp only [laws_sameBytes.l0]
      rw [if_pos h1, if_pos (by omega), if_pos (by omega), h2, hb2, if_neg hxy]
      simp [hxy]
theorem sbX_ev (a b : List Int) (hl : a.length ≤ 35184372088832) : Ev (fun k => laws_sameBytes.f k a b) (decide (a = b)) := by
  by_cases h : a.length = b.length
  · refine Ev.congr (fun k => ?_) (sbX_loop a b hl a b [] [] rfl rfl rfl h)
    unfold laws_sameBytes.f
    rw [if_pos (by omega)]
    rfl
  · refine ev_some fun k => ?_
    unfold laws_sameBytes.f
    rw [if_neg (by omega)]
    have : a ≠ b := fun e => h (by rw [e])
    simp [this]
theorem sbX_same (a : List Int) (hl : a.length ≤ 35184372088832) : Ev (fun k => laws_sameBytes.f k a a) true := ev_eq (sbX_ev a a hl) (by simp)

theorem drawPut_ev (l : List Int) (hl : l.length ≤ 1048576) : ∃ b n, Ev (fun k => spec_DrawAppendUvarint.f k l) (b, n) ∧ b.length ≤ 2 ∧ ∀ x ∈ b, 0 ≤ x ∧ x ≤ 255 := by
  obtain ⟨h, e⟩ := new_ev l hl
  obtain ⟨n, i1, k1, e1, n0, n1, _, j1⟩ := below_some l 0 h 3 hl (by omega)
  have n2 := n1 (by omega)
  obtain ⟨r, i2, k2, e2, hr, hw, j2⟩ := bytes_ev l i1 k1 n hl n0 (by omega) j1
  obtain ⟨v, i3, k3, e3, _, _, j3⟩ := one_some l i2 k2 hl j2
  refine ⟨r, v, ?_, by omega, hw⟩
  unfold spec_DrawAppendUvarint.f
  refine ev_bind e ?_
  refine ev_call e1 ?_
  refine ev_bind e2 ?_
  refine ev_call e3 ?_
  exact Ev.now _
theorem uvF_bytes (f : Nat) : ∀ (n : Int), 0 ≤ n → ∀ x ∈ uvF f n, 0 ≤ x ∧ x ≤ 255 := by
  induction f with
  | zero => intro n _ x h; simp [uvF] at h
  | succ f ih =>
    intro n hn x h
    unfold uvF at h
    split at h
    · rcases List.mem_cons.1 h with rfl | h
      · omega
      · exact ih _ (by omega) x h
    · simp at h
      omega
theorem uvP_bytes (n : Int) : ∀ x ∈ uvP n, 0 ≤ x ∧ x ≤ 255 := by
  intro x h
  unfold uvP at h
  split at h
  · rename_i hn
    exact uvF_bytes 6 n hn.1 x h
  · simp at h

theorem readDraw_loop (l : List Int) (hl : l.length ≤ 1048576) : ∀ (m : Nat) (j i h : Int) (acc : List Int), j ≤ m → m ≤ 8 → 0 ≤ i → acc.length + m ≤ 8 → (∀ x ∈ acc, 0 ≤ x ∧ x ≤ 255) → ∃ y o, Ev (fun k => spec_DrawReadUvarint.l0 k acc j l i h) (y, o) ∧ y.length ≤ 8 ∧ ∀ x ∈ y, 0 ≤ x ∧ x ≤ 255 := by
  intro m
  induction m with
  | zero =>
    intro j i h acc hj hm hi ha hw
    obtain ⟨t, i1, k1, e1, _, _, _, j1⟩ := below_some l i h 4 hl hi
    refine ⟨acc, wrap64 (t - 1), ev_end fun k => ?_, by omega, hw⟩
    simp only [spec_DrawReadUvarint.l0]
    rw [if_neg (by omega), e1]
    rfl
  | succ m ih =>
    intro j i h acc hj hm hi ha hw
    by_cases hj0 : j > 0
    · obtain ⟨x, i1, k1, e1, hx, j1⟩ := pick_some l i h [128, 255, 0, 1, 127] hl hi (by simp)
      obtain ⟨y, o, e2, hy⟩ := ih (j - 1) i1 k1 (acc ++ [x % 256]) (by omega) (by omega) j1 (by simp; omega) (by
        intro z hz
        rcases List.mem_append.1 hz with h | h
        · exact hw z h
        · simp at h; omega)
      refine ⟨y, o, Ev.step (fun k => ?_) e2, hy⟩
      simp only [spec_DrawReadUvarint.l0]
      rw [if_pos hj0, e1]
      simp only [Option.bind_some]
      rw [if_pos (by omega)]
      by_cases hjb : -9223372036854775808 ≤ j - 1
      · rw [wrap_ok (n := j - 1) (by omega)]
      · omega
    · obtain ⟨t, i1, k1, e1, _, _, _, j1⟩ := below_some l i h 4 hl hi
      refine ⟨acc, wrap64 (t - 1), ev_end fun k => ?_, by omega, hw⟩
      simp only [spec_DrawReadUvarint.l0]
      rw [if_neg hj0, e1]
      rfl
theorem drawRead_ev (l : List Int) (hl : l.length ≤ 1048576) : ∃ y o, Ev (fun k => spec_DrawReadUvarint.f k l) (y, o) ∧ y.length ≤ 8 ∧ ∀ x ∈ y, 0 ≤ x ∧ x ≤ 255 := by
  obtain ⟨h, e⟩ := new_ev l hl
  obtain ⟨t, i1, k1, e1, j1⟩ := once_some l 0 h 2 hl (by omega)
  by_cases ht : t = true
  · obtain ⟨r, i2, k2, e2, hr, hw, j2⟩ := bytes_ev l i1 k1 1 hl (by omega) (by omega) j1
    obtain ⟨v, i3, k3, e3, v0, v1, j3⟩ := num_some l i2 k2 hl j2
    have hu := uvP_len v
    refine ⟨r ++ uvP v, 1, ?_, by simp; omega, ?_⟩
    · unfold spec_DrawReadUvarint.f
      refine ev_bind e ?_
      refine ev_call e1 ?_
      refine ev_pos ht ?_
      refine ev_bind e2 ?_
      refine ev_call e3 ?_
      refine ev_bind (specPut_ev r v (by omega)) ?_
      exact Ev.now _
    · intro x hx
      rcases List.mem_append.1 hx with h | h
      · exact hw x h
      · exact uvP_bytes v x h
  · obtain ⟨n, i2, k2, e2, n0, n1, _, j2⟩ := below_some l i1 k1 8 hl j1
    have n2 := n1 (by omega)
    obtain ⟨y, o, e3, hy⟩ := readDraw_loop l hl 8 n i2 k2 [] (by omega) (by omega) j2 (by simp) (by simp)
    refine ⟨y, o, ?_, hy⟩
    unfold spec_DrawReadUvarint.f
    refine ev_bind e ?_
    refine ev_call e1 ?_
    refine ev_neg ht ?_
    refine ev_call e2 ?_
    exact e3
theorem varints_tail (l0 : List Int) (hl : l0.length ≤ 1048576) : Ev (fun k => laws_FnVarints.j1 k l0) true := by
  obtain ⟨y, o, e, hy, hw⟩ := drawRead_ev l0 hl
  refine Ev.step (fun k => laws_FnVarints.j1.eq_2 _ k) ?_
  refine ev_bind e ?_
  refine ev_bind (implRead_ev y o (by omega) hw) ?_
  by_cases h : (readP y o).2.2 = true
  · obtain ⟨h1, h2, h3, h4, h5⟩ := readP_ok y o hw h
    refine ev_pos h ?_
    refine ev_pos h5 ?_
    refine ev_pos h4 ?_
    refine ev_pos h3 ?_
    refine ev_bind (implPut_ev [] _ (by simp)) ?_
    refine ev_pos h5 ?_
    refine ev_pos (by omega) ?_
    rw [List.nil_append, readP_is y o hw h]
    refine ev_bind (sbX_same _ (by simp; omega)) ?_
    exact Ev.now true
  · have e0 := readP_no y o (by simpa using h)
    refine ev_neg h ?_
    refine ev_bind (specRead_ev y o (by omega) hw) ?_
    rw [e0]
    refine ev_pos rfl ?_
    refine ev_pos rfl ?_
    exact Ev.now true
theorem FnVarints : laws_FnVarints.Pure := by
  intro l0 _ _ _
  refine Ev.rounds ?_
  unfold laws_FnVarints.f
  refine ev_call (rfl : laws_big.f l0 = some (decide ((l0.length : Int) > 1048576))) ?_
  by_cases hb : (l0.length : Int) > 1048576
  · refine ev_pos (by simp; omega) ?_
    exact Ev.now true
  · refine ev_neg (by simp; omega) ?_
    have ht := varints_tail l0 (by omega)
    obtain ⟨b, n, e, hl, hw⟩ := drawPut_ev l0 (by omega)
    have hu := uvP_len n
    have hw2 : ∀ x ∈ b ++ uvP n, 0 ≤ x ∧ x ≤ 255 := by
      intro x hx
      rcases List.mem_append.1 hx with h | h
      · exact hw x h
      · exact uvP_bytes n x h
    refine ev_bind e ?_
    refine ev_bind (implPut_ev b n (by omega)) ?_
    refine ev_bind (implRead_ev (b ++ uvP n) (b.length : Int) (by simp; omega) hw2) ?_
    by_cases h0 : n < 0
    · have eu : uvP n = [] := if_neg (by omega)
      have er : readP (b ++ uvP n) (b.length : Int) = (0, 0, false) := by rw [eu, List.append_nil]; exact if_neg (by omega)
      refine ev_pos h0 ?_
      rw [er, eu, List.append_nil]
      refine Ev.step (fun k => laws_FnVarints.j0.eq_2 _ _ _ _ _ _ _ _ k) ?_
      refine ev_pos rfl ?_
      refine ev_neg (by simp) ?_
      refine ev_bind (sbX_same b (by omega)) ?_
      refine ev_pos rfl ?_
      exact ht
    · refine ev_neg h0 ?_
      by_cases h1 : n > 1000000000000
      · have eu : uvP n = [] := if_neg (by omega)
        have er : readP (b ++ uvP n) (b.length : Int) = (0, 0, false) := by rw [eu, List.append_nil]; exact if_neg (by omega)
        rw [er, eu, List.append_nil]
        refine Ev.step (fun k => laws_FnVarints.j0.eq_2 _ _ _ _ _ _ _ _ k) ?_
        refine ev_pos (by simp; omega) ?_
        refine ev_neg (by simp) ?_
        refine ev_bind (sbX_same b (by omega)) ?_
        refine ev_pos rfl ?_
        exact ht
      · have er := readP_put b [] n (by omega) (by omega)
        rw [List.append_nil] at er
        rw [er]
        refine Ev.step (fun k => laws_FnVarints.j0.eq_2 _ _ _ _ _ _ _ _ k) ?_
        refine ev_neg (by simp; omega) ?_
        refine ev_pos rfl ?_
        refine ev_pos rfl ?_
        refine ev_pos (by simp) ?_
        exact ht

end Go.Proofs.Ytbjecehiappdead.Pure

/-- The words' fact, under the name by which the row asks for it. -/
theorem Go.Proofs.Ytbjecehiappdead.PrintWords.sized_ints {H : Type} {enc : Go.TypeId × Go.Value → H} {P : Go.Program} {W : Go.World} {base : Nat} {spare : Nat → Bool} {held : Bool} {t e : Go.TypeId} {k : Go.IntKind} {a : Option Go.Addr} {len cap : Nat} {d : Go.DataW H} {ps : List Go.MemPlace} {ts : List Go.TypeId} {ds : List (Go.DataW H)} {j : Nat}
    (hsz : (Go.DataW.weightsEach P ts ds).all (· ≤ Go.reachBytes) = true) (ht : ts[j]? = some t) (hd : ds[j]? = some d) (hu : P.underlying t = some (.slice e)) (he : P.underlying e = some (.int k)) (hc : P.cellsOf e = 1) {B : Nat} (hB : P.bytesOf e = B)
    (h : Go.DataW.Trod enc P W base spare held t (.slice a len cap) d ps) : len * B ≤ 140737488351232 := Go.Proofs.YtbjecehiappdeadW.PrintWords.sized_ints hsz ht hd hu he hc hB h
