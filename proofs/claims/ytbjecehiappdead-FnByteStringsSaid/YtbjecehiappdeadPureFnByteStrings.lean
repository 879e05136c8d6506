/- The law FnByteStrings returns true at every list of bytes: byte strings and lists of integers are decoded from their encodings. No condition. -/
import Derived.Test.YtbjecehiappdeadQFnByteStringsx3
import Derived.OpenShut
import Derived.Test.YtbjecehiappdeadWSized
namespace Go.Proofs.Ytbjecehiappdead.Pure
open Go.RowKit Go.Proofs.Ytbjecehiappdead.QFnByteStrings Go.Proofs.YtbjecehiappdeadW.PrintWords Go.Proofs.YtbjecehiappdeadW.PrintLast Go.Proofs.YtbjecehiappdeadW.PrintMore
set_option linter.unusedVariables false
set_option linter.unusedSimpArgs false

/-! ### Words on rounds and on lists -/
theorem ev_bind {α β : Type} {g : Nat → Option α} {f : Nat → α → Option β} {a : α} {r : β} (h : Ev g a) (k : Ev (fun n => f n a) r) : Ev (fun n => (g n).bind (f n)) r := Ev.bind h k
theorem ev_call {α β : Type} {o : Option α} {f : Nat → α → Option β} {a : α} {r : β} (h : o = some a) (k : Ev (fun n => f n a) r) : Ev (fun n => o.bind (f n)) r := by
  subst h; exact k
theorem ev_pos {α : Type} {c : Prop} [Decidable c] {f g : Nat → Option α} {r : α} (h : c) (e : Ev f r) : Ev (fun n => if c then f n else g n) r := by
  obtain ⟨K, hK⟩ := e
  exact ⟨K, fun n hn => by show (if c then f n else g n) = some r; rw [if_pos h]; exact hK n hn⟩
theorem ev_neg {α : Type} {c : Prop} [Decidable c] {f g : Nat → Option α} {r : α} (h : ¬ c) (e : Ev g r) : Ev (fun n => if c then f n else g n) r := by
  obtain ⟨K, hK⟩ := e
  exact ⟨K, fun n hn => by show (if c then f n else g n) = some r; rw [if_neg h]; exact hK n hn⟩
theorem ev_end {α : Type} {g : Nat → Option α} {r : α} (h : ∀ k, g (k + 1) = some r) : Ev g r := Ev.step (f := fun _ => some r) h (Ev.now r)
theorem ev_eq {α : Type} {g : Nat → Option α} {r r' : α} (h : Ev g r) (e : r = r') : Ev g r' := e ▸ h
theorem ev_some {α : Type} {g : Nat → Option α} {r : α} (h : ∀ k, g k = some r) : Ev g r := ⟨0, fun k _ => h k⟩
theorem wrap_ok {n : Int} (h : -9223372036854775808 ≤ n ∧ n ≤ 9223372036854775807) : wrap64 n = n := by unfold wrap64; omega
theorem rd_mid (pre : List Int) (x : Int) (suf : List Int) : rd (pre ++ x :: suf) (pre.length : Int) = x := by simp [rd]
theorem snoc_len (pre : List Int) (x : Int) : (((pre ++ [x]).length : Nat) : Int) = (pre.length : Int) + 1 := by simp
theorem mid_facts {l pre suf : List Int} {x : Int} (h : l = pre ++ x :: suf) (hl : l.length ≤ 35184372088832) :
    (pre.length : Int) < (l.length : Int) ∧ rd l (pre.length : Int) = x ∧ wrap64 ((pre.length : Int) + 1) = (((pre ++ [x]).length : Nat) : Int) ∧ l = (pre ++ [x]) ++ suf := by
  have hlen : l.length = pre.length + (suf.length + 1) := by rw [h]; simp
  refine ⟨by omega, by rw [h]; exact rd_mid pre x suf, ?_, by rw [h]; simp⟩
  rw [snoc_len]
  exact wrap_ok (by omega)
theorem end_facts {l pre : List Int} (h : l = pre ++ []) : l = pre ∧ ¬ (pre.length : Int) < (l.length : Int) := by
  rw [List.append_nil] at h
  subst h
  exact ⟨rfl, by omega⟩
/-- The marks m, m + 1, .. -/
def marks : Int → Nat → List Int
  | _, 0 => []
  | m, n + 1 => m :: marks (m + 1) n
theorem marks_length (m : Int) (n : Nat) : (marks m n).length = n := by
  induction n generalizing m with
  | zero => rfl
  | succ n ih => simp [marks, ih]

theorem tmod_pos_bounds (v m : Int) (hm : 0 < m) (hv : 0 ≤ v) : 0 ≤ Int.tmod v m ∧ Int.tmod v m < m := by
  rw [Int.tmod_eq_emod_of_nonneg hv]
  exact ⟨Int.emod_nonneg v (by omega), Int.emod_lt_of_pos v hm⟩

theorem wraps_i64 (n : Int) (h0 : 0 ≤ n) (h1 : n < 2 ^ 63) : IntKind.i64.wrap n = n := by rw [IntKind.wrap_i64]; omega
theorem and127 (x : Int) (h0 : 0 ≤ x) (h1 : x < 9223372036854775808) : Go.bits .and .i64 x 127 = x % 128 := bits_mask .i64 63 (by decide) wraps_i64 7 (by decide) x h0 h1
theorem or_turn (x y : Int) (hx : 0 ≤ x) (hx1 : x < 9223372036854775808) (hy : 0 ≤ y) (hy1 : y < 9223372036854775808) : Go.bits .or .i64 x y = Go.bits .or .i64 y x := by
  obtain ⟨a, rfl⟩ := Int.eq_ofNat_of_zero_le hx
  obtain ⟨b, rfl⟩ := Int.eq_ofNat_of_zero_le hy
  rw [(bits_nat .i64 63 (by decide) wraps_i64 a b (by omega) (by omega)).2, (bits_nat .i64 63 (by decide) wraps_i64 b a (by omega) (by omega)).2, Nat.or_comm]
theorem or_low (x y : Int) (i : Nat) (hx : 0 ≤ x) (hx1 : x < 9223372036854775808) (hm : x % 2 ^ i = 0) (hy : 0 ≤ y) (hy1 : y < 2 ^ i) (hy2 : y < 9223372036854775808) : Go.bits .or .i64 y x = y + x := by
  rw [or_turn y x hy hy2 hx hx1, bits_join .i64 63 (by decide) wraps_i64 i x y hx hm (by omega) hy hy1 (by omega)]
  omega
theorem or128 (y : Int) (h0 : 0 ≤ y) (h1 : y < 128) : Go.bits .or .i64 y 128 = y + 128 := or_low 128 y 7 (by omega) (by omega) (by decide) h0 (by omega) (by omega)

/-! ### A varint -/
def uvF : Nat → Int → List Int
  | 0, _ => []
  | f + 1, n => if n ≥ 128 then (n % 128 + 128) :: uvF f (n / 128) else [n]
theorem uvF_len (f : Nat) : ∀ n, (uvF f n).length ≤ f := by
  induction f with
  | zero => intro n; simp [uvF]
  | succ f ih =>
    intro n
    have := ih (n / 128)
    unfold uvF
    split
    · simp; omega
    · simp
def uvP (n : Int) : List Int := if 0 ≤ n ∧ n ≤ 1000000000000 then uvF 6 n else []
theorem uvP_len (n : Int) : (uvP n).length ≤ 6 := by
  unfold uvP
  split
  · exact uvF_len 6 n
  · simp

theorem implPut_loop : ∀ (f : Nat) (n : Int) (acc : List Int), 0 ≤ n → n < 128 ^ (f + 1) → n ≤ 1000000000000 → acc.length + f ≤ 70368744177664 → Ev (fun k => impl_AppendUvarint.l0 k n acc) (acc ++ uvF (f + 1) n) := by
  intro f
  induction f with
  | zero =>
    intro n acc h0 h1 h2 h3
    refine ev_end fun k => ?_
    simp only [impl_AppendUvarint.l0]
    rw [if_neg (by omega), if_pos (by omega), Int.emod_eq_of_lt h0 (by omega)]
    have h4 : ¬ n ≥ 128 := by omega
    simp [uvF, h4]
  | succ f ih =>
    intro n acc h0 h1 h2 h3
    by_cases hn : n ≥ 128
    · have hd : n / 128 < 128 ^ (f + 1) := by
        have e : (128 : Int) ^ (f + 1 + 1) = 128 ^ (f + 1) * 128 := Int.pow_succ ..
        rw [e] at h1
        omega
      refine Ev.step (fun k => ?_) (ev_eq (ih (n / 128) (acc ++ [n % 128 + 128]) (by omega) hd (by omega) (by simp; omega)) (by simp [uvF, hn]))
      simp only [impl_AppendUvarint.l0]
      rw [if_pos hn, if_pos (by omega), Int.tdiv_eq_ediv_of_nonneg h0, Int.tmod_eq_emod_of_nonneg h0, wrap_ok (n := n / 128) (by omega), wrap_ok (n := n % 128 + 128) (by omega), Int.emod_eq_of_lt (a := n % 128 + 128) (by omega) (by omega)]
    · refine ev_end fun k => ?_
      simp only [impl_AppendUvarint.l0]
      rw [if_neg hn, if_pos (by omega), Int.emod_eq_of_lt h0 (by omega)]
      simp [uvF, hn]
theorem implPut_ev (l : List Int) (n : Int) (hl : l.length ≤ 35184372088832) : Ev (fun k => impl_AppendUvarint.f k l n) (l ++ uvP n) := by
  unfold impl_AppendUvarint.f
  refine ev_call rfl ?_
  refine ev_pos (by simp; omega) ?_
  refine ev_call rfl ?_
  rw [List.nil_append]
  unfold impl_InRange.f uvP
  by_cases h1 : 0 ≤ n
  · by_cases h2 : n ≤ 1000000000000
    · refine ev_call (if_pos h1) ?_
      refine ev_pos (by simp [h2]) ?_
      rw [if_pos ⟨h1, h2⟩]
      exact implPut_loop 5 n l h1 (by omega) h2 (by omega)
    · refine ev_call (if_pos h1) ?_
      refine ev_neg (by simp [h2]) ?_
      rw [if_neg (fun h => h2 h.2), List.append_nil]
      exact Ev.now _
  · refine ev_call (if_neg h1) ?_
    refine ev_neg (by simp) ?_
    rw [if_neg (fun h => h1 h.1), List.append_nil]
    exact Ev.now _

/-! ### A varint that is read -/
def rdF (b : List Int) (o : Int) : Nat → Int → Int → Int → Int × Int × Bool
  | 0, _, _, _ => (0, 0, false)
  | f + 1, k, m, n => if o + k < (b.length : Int) then (if rd b (o + k) < 128 then (if rd b (o + k) = 0 ∧ k > 0 then (0, 0, false) else if n + rd b (o + k) % 128 * m > 1000000000000 then (0, 0, false) else (n + rd b (o + k) % 128 * m, o + k + 1, true)) else rdF b o f (k + 1) (m * 128) (n + rd b (o + k) % 128 * m)) else (0, 0, false)
def readP (b : List Int) (o : Int) : Int × Int × Bool := if 0 ≤ o ∧ o < (b.length : Int) then rdF b o 6 0 1 0 else (0, 0, false)
theorem rd_byte {b : List Int} (hw : ∀ x ∈ b, 0 ≤ x ∧ x ≤ 255) (i : Int) : 0 ≤ rd b i ∧ rd b i ≤ 255 := by
  unfold rd
  rw [List.getD_eq_getElem?_getD]
  cases h : b[i.toNat]? with
  | none => simp
  | some x => exact hw x (List.mem_of_getElem? h)
theorem shl_at (k : Nat) (hk : k < 6) (y : Int) (h0 : 0 ≤ y) (h1 : y < 128) : shl .i64 y (wrap64 (7 * (k : Int))) = y * 128 ^ k := by
  rw [wrap_ok (by omega)]
  unfold shl
  rcases (by omega : k = 0 ∨ k = 1 ∨ k = 2 ∨ k = 3 ∨ k = 4 ∨ k = 5) with rfl | rfl | rfl | rfl | rfl | rfl <;> (rw [IntKind.wrap_i64]; simp [IntKind.bits]; try omega)
theorem pow_facts (k : Nat) (hk : k < 6) : (0 : Int) < 128 ^ k ∧ (128 : Int) ^ k ≤ 34359738368 ∧ (128 : Int) ^ (k + 1) = 128 ^ k * 128 := by
  refine ⟨Int.pow_pos (by omega), ?_, Int.pow_succ ..⟩
  rcases (by omega : k = 0 ∨ k = 1 ∨ k = 2 ∨ k = 3 ∨ k = 4 ∨ k = 5) with rfl | rfl | rfl | rfl | rfl | rfl <;> decide
theorem mul_small {y m : Int} (h0 : 0 ≤ y) (h1 : y ≤ 127) (hm : 0 < m) : 0 ≤ y * m ∧ y * m ≤ 127 * m := ⟨Int.mul_nonneg h0 (by omega), Int.mul_le_mul_of_nonneg_right h1 (by omega)⟩

theorem add_at (k : Nat) (hk : k < 6) (n x : Int) (h0 : 0 ≤ n) (h1 : n < 128 ^ k) (hx0 : 0 ≤ x) (hx : x ≤ 255) : wrap64 (n + shl .i64 (Int.tmod x 128) (wrap64 (7 * (k : Int)))) = n + x % 128 * 128 ^ k := by
  obtain ⟨hp, hp2, _⟩ := pow_facts k hk
  have hm := mul_small (y := x % 128) (m := 128 ^ k) (by omega) (by omega) hp
  rw [Int.tmod_eq_emod_of_nonneg hx0, shl_at k hk _ (by omega) (by omega), wrap_ok (by omega)]
theorem implRead_loop (b : List Int) (o : Int) (hb : b.length ≤ 35184372088832) (ho : 0 ≤ o) (ho2 : o < (b.length : Int)) (hw : ∀ x ∈ b, 0 ≤ x ∧ x ≤ 255) : ∀ (f k : Nat) (n : Int), k + f = 6 → 0 ≤ n → n < 128 ^ k → Ev (fun j => impl_ReadUvarint.l0 j b o n (k : Int)) (rdF b o f k (128 ^ k) n) := by
  intro f
  induction f with
  | zero =>
    intro k n hk h0 h1
    refine Ev.step (f := fun j => impl_ReadUvarint.j1 j b o n (k : Int) false) (fun j => ?_) (ev_end fun j => ?_)
    · simp only [impl_ReadUvarint.l0]
      rw [if_neg (by omega)]
    · simp only [impl_ReadUvarint.j1, rdF]
      rw [if_neg (by simp)]
  | succ f ih =>
    intro k n hk h0 h1
    obtain ⟨hp, hp2, hp3⟩ := pow_facts k (by omega)
    have hx := rd_byte hw (o + k)
    have hm := mul_small (y := rd b (o + k) % 128) (m := 128 ^ k) (by omega) (by omega) hp
    refine Ev.step (f := fun j => impl_ReadUvarint.j1 j b o n (k : Int) (decide (wrap64 (o + k) < (b.length : Int)))) (fun j => ?_) ?_
    · simp only [impl_ReadUvarint.l0]
      rw [if_pos (by omega)]
    rw [wrap_ok (n := o + k) (by omega)]
    by_cases hlt : o + k < (b.length : Int)
    · have hd : decide (o + k < (b.length : Int)) = true := by simp; omega
      rw [hd]
      have hor := add_at k (by omega) n (rd b (o + k)) h0 h1 hx.1 hx.2
      by_cases h128 : rd b (o + k) < 128
      · refine ev_end fun j => ?_
        simp only [impl_ReadUvarint.j1]
        rw [if_pos trivial, wrap_ok (n := o + k) (by omega), wrap_ok (n := rd b (o + k)) (by omega), if_pos (by omega), if_pos hlt, if_pos (by rw [wrap_ok] <;> omega), if_pos h128, hor, wrap_ok (n := o + k + 1) (by omega)]
        unfold rdF
        rw [if_pos hlt, if_pos h128]
        by_cases hk0 : (k : Int) > 0
        · by_cases hz : rd b (o + k) = 0
          · rw [if_pos hk0, if_pos hz, if_pos ⟨hz, hk0⟩]
          · rw [if_pos hk0, if_neg hz, if_neg (show ¬ (rd b (o + k) = 0 ∧ (k : Int) > 0) from fun h => hz h.1)]
            split <;> rfl
        · rw [if_neg hk0, if_neg (show ¬ (rd b (o + k) = 0 ∧ (k : Int) > 0) from fun h => hk0 h.2)]
          split <;> rfl
      · refine Ev.step (f := fun j => impl_ReadUvarint.l0 j b o (n + rd b (o + k) % 128 * 128 ^ k) ((k + 1 : Nat) : Int)) (fun j => ?_) ?_
        · simp only [impl_ReadUvarint.j1]
          rw [if_pos trivial, wrap_ok (n := o + k) (by omega), wrap_ok (n := rd b (o + k)) (by omega), if_pos (by omega), if_pos hlt, if_pos (by rw [wrap_ok] <;> omega), if_neg h128, hor, wrap_ok (n := (k : Int) + 1) (by omega)]
          rfl
        · unfold rdF
          rw [if_pos hlt, if_neg h128]
          have h := ih (k + 1) (n + rd b (o + k) % 128 * 128 ^ k) (by omega) (by omega) (by omega)
          rw [hp3] at h
          exact h
    · have hd : decide (o + k < (b.length : Int)) = false := by simp; omega
      rw [hd]
      refine ev_end fun j => ?_
      simp only [impl_ReadUvarint.j1]
      rw [if_neg (by simp)]
      unfold rdF
      rw [if_neg hlt]
theorem implRead_ev (b : List Int) (o : Int) (hb : b.length ≤ 35184372088832) (hw : ∀ x ∈ b, 0 ≤ x ∧ x ≤ 255) : Ev (fun j => impl_ReadUvarint.f j b o) (readP b o) := by
  unfold impl_ReadUvarint.f impl_InRange.f readP
  rw [wrap_ok (n := (b.length : Int) - 1) (by omega)]
  by_cases ho : 0 ≤ o
  · refine ev_call (if_pos ho) ?_
    by_cases h : o < (b.length : Int)
    · refine ev_pos (by simp; omega) ?_
      rw [if_pos ⟨ho, h⟩]
      exact implRead_loop b o hb ho h hw 6 0 0 rfl (by omega) (by decide)
    · refine ev_neg (by simp; omega) ?_
      rw [if_neg (fun h' => h h'.2)]
      exact Ev.now _
  · refine ev_call (if_neg ho) ?_
    refine ev_neg (by simp) ?_
    rw [if_neg (fun h' => ho h'.1)]
    exact Ev.now _

theorem rdF_ok (b : List Int) (o : Int) (ho : 0 ≤ o) (hw : ∀ x ∈ b, 0 ≤ x ∧ x ≤ 255) : ∀ (f : Nat) (k m n : Int), 0 ≤ k → 0 ≤ m → 0 ≤ n → (rdF b o f k m n).2.2 = true → 0 ≤ (rdF b o f k m n).1 ∧ (rdF b o f k m n).1 ≤ 1000000000000 ∧ o < (rdF b o f k m n).2.1 ∧ (rdF b o f k m n).2.1 ≤ (b.length : Int) := by
  intro f
  induction f with
  | zero => intro k m n _ _ _ h; simp [rdF] at h
  | succ f ih =>
    intro k m n hk hm hn h
    have hx := rd_byte hw (o + k)
    have hy : 0 ≤ rd b (o + k) % 128 * m := Int.mul_nonneg (by omega) hm
    unfold rdF at h ⊢
    by_cases hlt : o + k < (b.length : Int)
    · rw [if_pos hlt] at h ⊢
      by_cases h128 : rd b (o + k) < 128
      · rw [if_pos h128] at h ⊢
        by_cases hz : rd b (o + k) = 0 ∧ k > 0
        · rw [if_pos hz] at h
          simp at h
        · rw [if_neg hz] at h ⊢
          by_cases hbig : n + rd b (o + k) % 128 * m > 1000000000000
          · rw [if_pos hbig] at h
            simp at h
          · rw [if_neg hbig]
            exact ⟨by show 0 ≤ n + _; omega, by show n + _ ≤ _; omega, by show o < o + k + 1; omega, by show o + k + 1 ≤ _; omega⟩
      · rw [if_neg h128] at h ⊢
        exact ih _ _ _ (by omega) (by omega) (by omega) h
    · rw [if_neg hlt] at h
      simp at h
theorem readP_ok (b : List Int) (o : Int) (hw : ∀ x ∈ b, 0 ≤ x ∧ x ≤ 255) (h : (readP b o).2.2 = true) : 0 ≤ (readP b o).1 ∧ (readP b o).1 ≤ 1000000000000 ∧ o < (readP b o).2.1 ∧ (readP b o).2.1 ≤ (b.length : Int) ∧ 0 ≤ o := by
  unfold readP at h ⊢
  by_cases ho : 0 ≤ o ∧ o < (b.length : Int)
  · rw [if_pos ho] at h ⊢
    obtain ⟨h1, h2, h3, h4⟩ := rdF_ok b o ho.1 hw 6 0 1 0 (by omega) (by omega) (by omega) h
    exact ⟨h1, h2, h3, h4, ho.1⟩
  · rw [if_neg ho] at h
    simp at h

/-! ### A varint that was put is read -/
theorem uvF_pos (f : Nat) (n : Int) : 1 ≤ (uvF (f + 1) n).length := by
  unfold uvF
  split <;> simp
theorem rdF_last (o : Int) (f : Nat) (p post : List Int) (k m n0 v : Int) (hp : (p.length : Int) = o + k) (h0 : 0 ≤ v) (h1 : v < 128) (hb : n0 + v * m ≤ 1000000000000) (hv : 0 < v ∨ k = 0) : rdF (p ++ v :: post) o (f + 1) k m n0 = (n0 + v * m, o + k + 1, true) := by
  have hr : rd (p ++ v :: post) (o + k) = v := by rw [← hp]; exact rd_mid p v post
  unfold rdF
  rw [hr, Int.emod_eq_of_lt h0 h1, if_pos (by simp; omega), if_pos h1, if_neg (by omega), if_neg (by omega)]
theorem split128 (v m : Int) : v % 128 * m + v / 128 * (m * 128) = v * m := by
  have e : v = v % 128 + 128 * (v / 128) := by omega
  have h : (v % 128 + 128 * (v / 128)) * m = v % 128 * m + v / 128 * (m * 128) := by grind
  rw [← h, ← e]
theorem rdF_put (o : Int) : ∀ (f : Nat) (p post : List Int) (k m n0 v : Int), (p.length : Int) = o + k → 0 ≤ k → 0 < m → 0 ≤ n0 → 0 ≤ v → v < 128 ^ (f + 1) → n0 + v * m ≤ 1000000000000 → (0 < v ∨ k = 0) → rdF (p ++ (uvF (f + 1) v ++ post)) o (f + 1) k m n0 = (n0 + v * m, o + k + ((uvF (f + 1) v).length : Int), true) := by
  intro f
  induction f with
  | zero =>
    intro p post k m n0 v hp hk hm hn h0 h1 hb hv
    have h2 : ¬ v ≥ 128 := by omega
    have e : uvF (0 + 1) v = [v] := by simp [uvF, h2]
    rw [e, List.singleton_append, rdF_last o 0 p post k m n0 v hp h0 (by omega) hb hv]
    simp
  | succ f ih =>
    intro p post k m n0 v hp hk hm hn h0 h1 hb hv
    by_cases h2 : v ≥ 128
    · have e : uvF (f + 1 + 1) v = (v % 128 + 128) :: uvF (f + 1) (v / 128) := by
        rw [uvF, if_pos h2]
      have hpw : (128 : Int) ^ (f + 1 + 1) = 128 ^ (f + 1) * 128 := Int.pow_succ ..
      have hr : rd (p ++ (v % 128 + 128) :: (uvF (f + 1) (v / 128) ++ post)) (o + k) = v % 128 + 128 := by rw [← hp]; exact rd_mid ..
      have hsp := split128 v m
      have hv2 : v % 128 * m ≥ 0 := Int.mul_nonneg (by omega) (by omega)
      have hi := ih (p ++ [v % 128 + 128]) post (k + 1) (m * 128) (n0 + v % 128 * m) (v / 128) (by simp; omega) (by omega) (by omega) (by omega) (by omega) (by omega) (by omega) (by omega)
      rw [List.append_assoc, List.singleton_append] at hi
      rw [e, List.cons_append, rdF, hr, if_pos (by simp; omega), if_neg (by omega)]
      have e2 : (v % 128 + 128) % 128 = v % 128 := by omega
      rw [e2, hi]
      simp only [Prod.mk.injEq, List.length_cons, and_true]
      omega
    · have e : uvF (f + 1 + 1) v = [v] := by rw [uvF, if_neg h2]
      rw [e, List.singleton_append, rdF_last o (f + 1) p post k m n0 v hp h0 (by omega) hb hv]
      simp
theorem readP_put (l post : List Int) (n : Int) (h0 : 0 ≤ n) (h1 : n ≤ 1000000000000) : readP (l ++ (uvP n ++ post)) (l.length : Int) = (n, (l.length : Int) + ((uvP n).length : Int), true) := by
  have hu : uvP n = uvF 6 n := if_pos ⟨h0, h1⟩
  have hp : 1 ≤ (uvF 6 n).length := uvF_pos 5 n
  rw [hu]
  unfold readP
  rw [if_pos ⟨by omega, by simp; omega⟩, rdF_put (l.length : Int) 5 l post 0 1 0 n (by omega) (by omega) (by omega) (by omega) h0 (by omega) (by omega) (.inr rfl)]
  simp
theorem rdF_no (b : List Int) (o : Int) : ∀ (f : Nat) (k m n : Int), (rdF b o f k m n).2.2 = false → rdF b o f k m n = (0, 0, false) := by
  intro f
  induction f with
  | zero => intro k m n _; rfl
  | succ f ih =>
    intro k m n h
    unfold rdF at h ⊢
    split
    · rename_i h1
      rw [if_pos h1] at h
      split
      · rename_i h2
        rw [if_pos h2] at h
        split
        · rfl
        · rename_i h3
          rw [if_neg h3] at h
          split
          · rfl
          · rename_i h4
            rw [if_neg h4] at h
            simp at h
      · rename_i h2
        rw [if_neg h2] at h
        exact ih _ _ _ h
    · rfl
theorem readP_no (b : List Int) (o : Int) (h : (readP b o).2.2 = false) : readP b o = (0, 0, false) := by
  unfold readP at h ⊢
  split
  · rename_i h1
    rw [if_pos h1] at h
    exact rdF_no b o 6 0 1 0 h
  · rfl

def readBytesP (b : List Int) (o m : Int) : List Int × Int × Bool :=
  if (readP b o).2.2 = true then (if (readP b o).1 > m then ([], 0, false) else if (readP b o).1 > (b.length : Int) - (readP b o).2.1 then ([], 0, false) else ((b.take ((readP b o).2.1 + (readP b o).1).toNat).drop (readP b o).2.1.toNat, (readP b o).2.1 + (readP b o).1, true)) else ([], 0, false)
theorem readBytesP_len (b : List Int) (o m : Int) : (readBytesP b o m).1.length ≤ b.length := by
  unfold readBytesP
  split
  · split
    · simp
    · split
      · simp
      · simp; omega
  · simp

theorem implRB_ev (b : List Int) (o m : Int) (hb : b.length ≤ 35184372088832) (hw : ∀ x ∈ b, 0 ≤ x ∧ x ≤ 255) : Ev (fun k => impl_ReadBytes.f k b o m) (readBytesP b o m) := by
  unfold impl_ReadBytes.f readBytesP
  refine ev_bind (implRead_ev b o hb hw) ?_
  have hok := readP_ok b o hw
  by_cases h : (readP b o).2.2 = true
  · obtain ⟨h1, h2, h3, h4, h5⟩ := hok h
    refine ev_pos h ?_
    rw [if_pos h]
    by_cases hm : (readP b o).1 > m
    · refine ev_pos hm ?_
      rw [if_pos hm]
      exact Ev.now _
    · refine ev_neg hm ?_
      rw [if_neg hm, wrap_ok (n := (b.length : Int) - (readP b o).2.1) (by omega)]
      by_cases hr : (readP b o).1 > (b.length : Int) - (readP b o).2.1
      · refine ev_pos hr ?_
        rw [if_pos hr]
        exact Ev.now _
      · refine ev_neg hr ?_
        rw [if_neg hr, wrap_ok (n := (readP b o).2.1 + (readP b o).1) (by omega)]
        refine ev_call rfl ?_
        refine ev_pos (by omega) ?_
        refine ev_pos (by omega) ?_
        refine ev_pos (by omega) ?_
        refine ev_pos (by simp; omega) ?_
        rw [List.nil_append]
        exact Ev.now _
  · refine ev_neg h ?_
    rw [if_neg h]
    exact Ev.now _

theorem implAB_ev (l s : List Int) (hl : l.length ≤ 35184372088832) (hs : s.length ≤ 35184372088832) : Ev (fun k => impl_AppendBytes.f k l s) (l ++ uvP (s.length : Int) ++ s) := by
  have hu := uvP_len (s.length : Int)
  unfold impl_AppendBytes.f
  refine ev_bind (implPut_ev l _ hl) ?_
  refine ev_pos (by simp; omega) ?_
  exact Ev.now _

def encP : List Int → List Int
  | [] => []
  | x :: s => uvP x ++ encP s
theorem encP_len (l : List Int) : (encP l).length ≤ 6 * l.length := by
  induction l with
  | nil => simp [encP]
  | cons x l ih =>
    have := uvP_len x
    simp [encP]
    omega
theorem implEnc_loop (l : List Int) (hl : l.length ≤ 1048576) : ∀ (suf pre acc : List Int), l = pre ++ suf → acc.length ≤ 6 * pre.length → Ev (fun k => impl_EncodeInts.l0 k acc l (l.length : Int) (pre.length : Int)) (acc ++ encP suf) := by
  intro suf
  induction suf with
  | nil =>
    intro pre acc h hacc
    obtain ⟨_, h2⟩ := end_facts h
    refine ev_end fun k => ?_
    simp only [impl_EncodeInts.l0]
    rw [if_neg h2]
    simp [encP]
  | cons x suf ih =>
    intro pre acc h hacc
    obtain ⟨h1, h2, h3, h4⟩ := mid_facts h (by omega)
    have hu := uvP_len x
    have hlen : l.length = pre.length + (suf.length + 1) := by rw [h]; simp
    refine Ev.step (f := fun k => (impl_AppendUvarint.f k acc x).bind fun t => impl_EncodeInts.l0 k t l (l.length : Int) (((pre ++ [x]).length : Nat) : Int)) (fun k => ?_) ?_
    · simp only [impl_EncodeInts.l0]
      rw [if_pos h1, if_pos (by omega), if_pos h1, h2, h3]
    · refine ev_bind (implPut_ev acc x (by omega)) ?_
      exact ev_eq (ih (pre ++ [x]) _ h4 (by simp; omega)) (by simp [encP])
theorem implEnc_ev (l : List Int) (hl : l.length ≤ 1048576) : Ev (fun k => impl_EncodeInts.f k l) (encP l) := implEnc_loop l hl l [] [] rfl (by simp)

/-- n varints from o on, behind acc. -/
def decF (b : List Int) : Nat → Int → List Int → List Int × Int × Bool
  | 0, o, acc => (acc, o, true)
  | n + 1, o, acc => if (readP b o).2.2 = true then decF b n (readP b o).2.1 (acc ++ [(readP b o).1]) else ([], 0, false)
def decP (b : List Int) (o c : Int) : List Int × Int × Bool := if (0 ≤ c ∧ c ≤ 100) ∧ 0 ≤ o ∧ o ≤ (b.length : Int) then decF b c.toNat o [] else ([], 0, false)
theorem decF_len (b : List Int) (n : Nat) : ∀ o acc, (decF b n o acc).1.length ≤ acc.length + n := by
  induction n with
  | zero => intro o acc; simp [decF]
  | succ n ih =>
    intro o acc
    unfold decF
    split
    · have := ih (readP b o).2.1 (acc ++ [(readP b o).1])
      simp at this
      omega
    · simp
theorem decP_len (b : List Int) (o c : Int) : (decP b o c).1.length ≤ 100 := by
  unfold decP
  split
  · have := decF_len b c.toNat o []
    simp at this
    omega
  · simp

theorem implDec_loop (b : List Int) (c : Int) (hb : b.length ≤ 1048576) (hw : ∀ x ∈ b, 0 ≤ x ∧ x ≤ 255) (hc : c ≤ 100) : ∀ (n : Nat) (i o : Int) (acc : List Int), 0 ≤ i → i + n = c → acc.length ≤ 100 - n → Ev (fun k => impl_DecodeInts.l0 k b o acc c i) (decF b n o acc) := by
  intro n
  induction n with
  | zero =>
    intro i o acc h0 h1 h2
    refine ev_end fun k => ?_
    simp only [impl_DecodeInts.l0]
    rw [if_neg (by omega)]
    rfl
  | succ n ih =>
    intro i o acc h0 h1 h2
    refine Ev.step (f := fun k => (impl_ReadUvarint.f k b o).bind fun bt => if bt.2.2 = true then (if acc.length < 17592186044416 then impl_DecodeInts.l0 k b bt.2.1 (acc ++ [bt.1]) c (i + 1) else none) else some ([], 0, false)) (fun k => ?_) ?_
    · simp only [impl_DecodeInts.l0]
      rw [if_pos (by omega), wrap_ok (n := i + 1) (by omega)]
    · refine ev_bind (implRead_ev b o (by omega) hw) ?_
      unfold decF
      by_cases h : (readP b o).2.2 = true
      · refine ev_pos h ?_
        refine ev_pos (by omega) ?_
        rw [if_pos h]
        exact ih (i + 1) _ _ (by omega) (by omega) (by simp; omega)
      · refine ev_neg h ?_
        rw [if_neg h]
        exact Ev.now _
theorem implDec_ev (b : List Int) (o c : Int) (hb : b.length ≤ 1048576) (hw : ∀ x ∈ b, 0 ≤ x ∧ x ≤ 255) : Ev (fun k => impl_DecodeInts.f k b o c) (decP b o c) := by
  unfold impl_DecodeInts.f impl_InRange.f decP
  by_cases h1 : 0 ≤ c
  · refine ev_call (if_pos h1) ?_
    by_cases h2 : c ≤ 100
    · refine ev_pos (by simp [h2]) ?_
      by_cases h3 : 0 ≤ o
      · refine ev_call (if_pos h3) ?_
        by_cases h4 : o ≤ (b.length : Int)
        · rw [if_pos ⟨⟨h1, h2⟩, h3, h4⟩]
          refine Ev.step (f := fun k => impl_DecodeInts.l0 k b o [] c 0) (fun k => ?_) ?_
          · simp only [impl_DecodeInts.j0]
            rw [if_neg (by simp [h4])]
          · exact implDec_loop b c hb hw h2 c.toNat 0 o [] (by omega) (by omega) (by simp)
        · rw [if_neg (fun h => h4 h.2.2)]
          refine ev_end fun k => ?_
          simp only [impl_DecodeInts.j0]
          rw [if_pos (by simp; omega)]
      · refine ev_call (if_neg h3) ?_
        rw [if_neg (fun h => h3 h.2.1)]
        refine ev_end fun k => ?_
        simp only [impl_DecodeInts.j0]
        rw [if_pos (by simp)]
    · refine ev_neg (by simp [h2]) ?_
      rw [if_neg (fun h => h2 h.1.2)]
      refine ev_end fun k => ?_
      simp only [impl_DecodeInts.j0]
      rw [if_pos trivial]
  · refine ev_call (if_neg h1) ?_
    refine ev_neg (by simp) ?_
    rw [if_neg (fun h => h1 h.1.1)]
    refine ev_end fun k => ?_
    simp only [impl_DecodeInts.j0]
    rw [if_pos trivial]

/-! ### The cursor of the draws -/
theorem and255_range (x : Int) : 0 ≤ Go.bits .and .i64 x 255 ∧ Go.bits .and .i64 x 255 ≤ 255 := by
  have h : ∀ a : BitVec 64, (a &&& (255#64)).toNat ≤ 255 := fun a => by rw [BitVec.toNat_and]; exact Nat.and_le_right
  have h2 := h (BitVec.ofInt 64 x)
  have e : Go.bits .and .i64 x 255 = IntKind.i64.wrap (((BitVec.ofInt 64 x &&& (255#64)).toNat : Nat) : Int) := rfl
  rw [e, IntKind.wrap_i64]
  omega
theorem byte_some (b : List Int) (i h : Int) (hb : b.length ≤ 1048576) (hi : 0 ≤ i) : ∃ x i' h', spec_l1Byte.f b i h = some (x, i', h') ∧ 0 ≤ x ∧ x ≤ 255 ∧ 0 ≤ i' := by
  unfold spec_l1Byte.f
  by_cases h1 : i < (b.length : Int)
  · rw [if_pos h1, if_pos hi]
    exact ⟨_, _, _, rfl, (and255_range _).1, (and255_range _).2, by rw [wrap_ok] <;> omega⟩
  · rw [if_neg h1]
    exact ⟨_, _, _, rfl, (and255_range _).1, (and255_range _).2, hi⟩
theorem below_some (b : List Int) (i h n : Int) (hb : b.length ≤ 1048576) (hi : 0 ≤ i) : ∃ x i' h', spec_l1Below.f b i h n = some (x, i', h') ∧ 0 ≤ x ∧ (0 < n → x < n) ∧ (n ≤ 0 → x = 0) ∧ 0 ≤ i' := by
  unfold spec_l1Below.f
  by_cases h1 : n ≤ 0
  · rw [if_pos h1]
    exact ⟨_, _, _, rfl, by omega, fun h => by omega, fun _ => rfl, hi⟩
  · rw [if_neg h1]
    have h0 : ¬ n = 0 := by omega
    by_cases h2 : n ≤ 256
    · rw [if_pos h2]
      obtain ⟨x, i1, k1, e1, x0, x1, j1⟩ := byte_some b i h hb hi
      rw [e1]
      simp only [Option.bind_some, if_neg h0]
      have ht := tmod_pos_bounds x n (by omega) x0
      exact ⟨_, _, _, rfl, ht.1, fun _ => ht.2, fun h => by omega, j1⟩
    · rw [if_neg h2]
      obtain ⟨x, i1, k1, e1, x0, x1, j1⟩ := byte_some b i h hb hi
      obtain ⟨y, i2, k2, e2, y0, y1, j2⟩ := byte_some b i1 k1 hb j1
      obtain ⟨z, i3, k3, e3, z0, z1, j3⟩ := byte_some b i2 k2 hb j2
      rw [e1]
      simp only [Option.bind_some, e2, e3, if_neg h0]
      rw [wrap_ok (n := x * 65536) (by omega), wrap_ok (n := y * 256) (by omega), wrap_ok (n := x * 65536 + y * 256) (by omega), wrap_ok (by omega)]
      have ht := tmod_pos_bounds (x * 65536 + y * 256 + z) n (by omega) (by omega)
      exact ⟨_, _, _, rfl, ht.1, fun _ => ht.2, fun h => by omega, j3⟩

theorem new_loop (l : List Int) (hl : l.length ≤ 1048576) : ∀ (n : Nat) (i h : Int), 0 ≤ i → (4000 : Int) - i ≤ n → ∃ h', Ev (fun k => spec_l1New.l0 k l h i) (l, 0, h') := by
  intro n
  induction n with
  | zero =>
    intro i h h0 h1
    refine ⟨h, ev_end fun k => ?_⟩
    simp only [spec_l1New.l0]
    by_cases h2 : i < (l.length : Int)
    · rw [if_pos h2, if_neg (by omega)]
    · rw [if_neg h2]
  | succ n ih =>
    intro i h h0 h1
    by_cases h2 : i < (l.length : Int)
    · by_cases h3 : i < 4000
      · obtain ⟨h', e⟩ := ih (i + 1) (Go.bits .and .i64 (wrap64 ((wrap64 ((wrap64 (h * 137)) + (wrap64 (rd l i)))) + 11)) 1073741823) (by omega) (by omega)
        refine ⟨h', Ev.step (fun k => ?_) e⟩
        simp only [spec_l1New.l0]
        rw [if_pos h2, if_pos h3, if_pos h0, wrap_ok (n := i + 1) (by omega)]
      · refine ⟨h, ev_end fun k => ?_⟩
        simp only [spec_l1New.l0]
        rw [if_pos h2, if_neg h3]
    · refine ⟨h, ev_end fun k => ?_⟩
      simp only [spec_l1New.l0]
      rw [if_neg h2]
theorem new_ev (l : List Int) (hl : l.length ≤ 1048576) : ∃ h, Ev (fun k => spec_l1New.f k l) (l, 0, h) := new_loop l hl 4000 0 _ (by omega) (by omega)

theorem bytes_loop (b : List Int) (n : Int) (hb : b.length ≤ 1048576) (hn : n ≤ 1048576) : ∀ (m : Nat) (j i h : Int) (acc : List Int), 0 ≤ j → j + m = n → 0 ≤ i → acc.length = j → (∀ x ∈ acc, 0 ≤ x ∧ x ≤ 255) → ∃ r i' h', Ev (fun k => spec_l1Bytes.l0 k n acc j b i h) (r, i', h') ∧ (r.length : Int) = n ∧ (∀ x ∈ r, 0 ≤ x ∧ x ≤ 255) ∧ 0 ≤ i' := by
  intro m
  induction m with
  | zero =>
    intro j i h acc hj hm hi ha hw
    refine ⟨acc, i, h, ev_end fun k => ?_, by omega, hw, hi⟩
    simp only [spec_l1Bytes.l0]
    rw [if_neg (by omega)]
  | succ m ih =>
    intro j i h acc hj hm hi ha hw
    obtain ⟨x, i1, k1, e1, x0, x1, j1⟩ := byte_some b i h hb hi
    obtain ⟨r, i2, k2, e2, h2⟩ := ih (j + 1) i1 k1 (acc ++ [x]) (by omega) (by omega) j1 (by simp; omega) (by
      intro y hy
      rcases List.mem_append.1 hy with h | h
      · exact hw y h
      · simp at h; omega)
    refine ⟨r, i2, k2, Ev.step (fun k => ?_) e2, h2⟩
    simp only [spec_l1Bytes.l0]
    rw [if_pos (by omega), e1]
    simp only [Option.bind_some]
    rw [if_pos (by omega), wrap_ok (n := j + 1) (by omega), Int.emod_eq_of_lt x0 (by omega)]
theorem bytes_ev (b : List Int) (i h n : Int) (hb : b.length ≤ 1048576) (h0 : 0 ≤ n) (hn : n ≤ 1048576) (hi : 0 ≤ i) : ∃ r i' h', Ev (fun k => spec_l1Bytes.f k b i h n) (r, i', h') ∧ (r.length : Int) = n ∧ (∀ x ∈ r, 0 ≤ x ∧ x ≤ 255) ∧ 0 ≤ i' := bytes_loop b n hb hn n.toNat 0 i h [] (by omega) (by omega) hi rfl (by simp)

theorem sbX_loop (a b : List Int) (hl : a.length ≤ 35184372088832) : ∀ (s1 s2 p1 p2 : List Int), a = p1 ++ s1 → b = p2 ++ s2 → p1.length = p2.length → s1.length = s2.length → Ev (fun k => laws_sameBytes.l0 k a b (p1.length : Int)) (decide (s1 = s2)) := by
  intro s1
  induction s1 with
  | nil =>
    intro s2 p1 p2 ha hb hp hs
    obtain rfl : s2 = [] := List.eq_nil_of_length_eq_zero hs.symm
    obtain ⟨_, h2⟩ := end_facts ha
    refine ev_end fun k => ?_
    simp only [laws_sameBytes.l0]
    rw [if_neg h2]
    simp
  | cons x s1 ih =>
    intro s2 p1 p2 ha hb hp hs
    cases s2 with
    | nil => simp at hs
    | cons y s2 =>
    obtain ⟨h1, h2, h3, h4⟩ := mid_facts ha hl
    have hb1 : b.length = p2.length + (s2.length + 1) := by rw [hb]; simp
    have hb2 : rd b (p1.length : Int) = y := by rw [hp, hb]; exact rd_mid p2 y s2
    have hb3 : b = (p2 ++ [y]) ++ s2 := by rw [hb]; simp
    by_cases hxy : x = y
    · refine Ev.step (fun k => ?_) (ev_eq (ih s2 (p1 ++ [x]) (p2 ++ [y]) h4 hb3 (by simp [hp]) (by simpa using hs)) (by simp [hxy]))
      simp only [laws_sameBytes.l0]
      rw [if_pos h1, if_pos (by omega), if_pos (by omega), h2, hb2, if_pos hxy, h3]
    · refine ev_end fun k => ?_
      simp only [laws_sameBytes.l0]
      rw [if_pos h1, if_pos (by omega), if_pos (by omega), h2, hb2, if_neg hxy]
      simp [hxy]
theorem sbX_ev (a b : List Int) (hl : a.length ≤ 35184372088832) : Ev (fun k => laws_sameBytes.f k a b) (decide (a = b)) := by
  by_cases h : a.length = b.length
  · refine Ev.congr (fun k => ?_) (sbX_loop a b hl a b [] [] rfl rfl rfl h)
    unfold laws_sameBytes.f
    rw [if_pos (by omega)]
    rfl
  · refine ev_some fun k => ?_
    unfold laws_sameBytes.f
    rw [if_neg (by omega)]
    have : a ≠ b := fun e => h (by rw [e])
    simp [this]
theorem sbX_same (a : List Int) (hl : a.length ≤ 35184372088832) : Ev (fun k => laws_sameBytes.f k a a) true := ev_eq (sbX_ev a a hl) (by simp)

theorem siX_loop (a b : List Int) (hl : a.length ≤ 35184372088832) : ∀ (s1 s2 p1 p2 : List Int), a = p1 ++ s1 → b = p2 ++ s2 → p1.length = p2.length → s1.length = s2.length → Ev (fun k => laws_sameInts.l0 k a b (p1.length : Int)) (decide (s1 = s2)) := by
  intro s1
  induction s1 with
  | nil =>
    intro s2 p1 p2 ha hb hp hs
    obtain rfl : s2 = [] := List.eq_nil_of_length_eq_zero hs.symm
    obtain ⟨_, h2⟩ := end_facts ha
    refine ev_end fun k => ?_
    simp only [laws_sameInts.l0]
    rw [if_neg h2]
    simp
  | cons x s1 ih =>
    intro s2 p1 p2 ha hb hp hs
    cases s2 with
    | nil => simp at hs
    | cons y s2 =>
    obtain ⟨h1, h2, h3, h4⟩ := mid_facts ha hl
    have hb1 : b.length = p2.length + (s2.length + 1) := by rw [hb]; simp
    have hb2 : rd b (p1.length : Int) = y := by rw [hp, hb]; exact rd_mid p2 y s2
    have hb3 : b = (p2 ++ [y]) ++ s2 := by rw [hb]; simp
    by_cases hxy : x = y
    · refine Ev.step (fun k => ?_) (ev_eq (ih s2 (p1 ++ [x]) (p2 ++ [y]) h4 hb3 (by simp [hp]) (by simpa using hs)) (by simp [hxy]))
      simp only [laws_sameInts.l0]
      rw [if_pos h1, if_pos (by omega), if_pos (by omega), h2, hb2, if_pos hxy, h3]
    · refine ev_end fun k => ?_
      simp only [laws_sameInts.l0]
      rw [if_pos h1, if_pos (by omega), if_pos (by omega), h2, hb2, if_neg hxy]
      simp [hxy]
theorem siX_ev (a b : List Int) (hl : a.length ≤ 35184372088832) : Ev (fun k => laws_sameInts.f k a b) (decide (a = b)) := by
  by_cases h : a.length = b.length
  · refine Ev.congr (fun k => ?_) (siX_loop a b hl a b [] [] rfl rfl rfl h)
    unfold laws_sameInts.f
    rw [if_pos (by omega)]
    rfl
  · refine ev_some fun k => ?_
    unfold laws_sameInts.f
    rw [if_neg (by omega)]
    have : a ≠ b := fun e => h (by rw [e])
    simp [this]
theorem siX_same (a : List Int) (hl : a.length ≤ 35184372088832) : Ev (fun k => laws_sameInts.f k a a) true := ev_eq (siX_ev a a hl) (by simp)

theorem uvF_bytes (f : Nat) : ∀ (n : Int), 0 ≤ n → ∀ x ∈ uvF f n, 0 ≤ x ∧ x ≤ 255 := by
  induction f with
  | zero => intro n _ x h; simp [uvF] at h
  | succ f ih =>
    intro n hn x h
    unfold uvF at h
    split at h
    · rcases List.mem_cons.1 h with rfl | h
      · omega
      · exact ih _ (by omega) x h
    · simp at h
      omega
theorem uvP_bytes (n : Int) : ∀ x ∈ uvP n, 0 ≤ x ∧ x ≤ 255 := by
  intro x h
  unfold uvP at h
  split at h
  · rename_i hn
    exact uvF_bytes 6 n hn.1 x h
  · simp at h

theorem drawAB_ev (l : List Int) (hl : l.length ≤ 1048576) : ∃ b d, Ev (fun k => spec_DrawAppendBytes.f k l) (b, d) ∧ b.length ≤ 2 ∧ (∀ x ∈ b, 0 ≤ x ∧ x ≤ 255) ∧ d.length ≤ 5 ∧ ∀ x ∈ d, 0 ≤ x ∧ x ≤ 255 := by
  obtain ⟨h, e⟩ := new_ev l hl
  obtain ⟨n, i1, k1, e1, n0, n1, _, j1⟩ := below_some l 0 h 3 hl (by omega)
  have n2 := n1 (by omega)
  obtain ⟨r, i2, k2, e2, hr, hw, j2⟩ := bytes_ev l i1 k1 n hl n0 (by omega) j1
  obtain ⟨m, i3, k3, e3, m0, m1, _, j3⟩ := below_some l i2 k2 6 hl j2
  have m2 := m1 (by omega)
  obtain ⟨r2, i4, k4, e4, hr2, hw2, j4⟩ := bytes_ev l i3 k3 m hl m0 (by omega) j3
  refine ⟨r, r2, ?_, by omega, hw, by omega, hw2⟩
  unfold spec_DrawAppendBytes.f
  refine ev_bind e ?_
  refine ev_call e1 ?_
  refine ev_bind e2 ?_
  refine ev_call e3 ?_
  refine ev_bind e4 ?_
  exact Ev.now _
theorem readBytes_put (l s : List Int) (m : Int) (hs : s.length ≤ 1048576) : readBytesP (l ++ uvP (s.length : Int) ++ s) (l.length : Int) m = if (s.length : Int) > m then ([], 0, false) else (s, ((l ++ uvP (s.length : Int) ++ s).length : Int), true) := by
  have er := readP_put l s (s.length : Int) (by omega) (by omega)
  rw [← List.append_assoc] at er
  unfold readBytesP
  rw [er]
  simp only [if_true]
  by_cases h : (s.length : Int) > m
  · rw [if_pos h, if_pos h]
  · rw [if_neg h, if_neg h, if_neg (by simp; omega)]
    have e1 : ((l.length : Int) + ((uvP (s.length : Int)).length : Int) + (s.length : Int)).toNat = (l ++ uvP (s.length : Int) ++ s).length := by simp; omega
    have e2 : ((l.length : Int) + ((uvP (s.length : Int)).length : Int)).toNat = (l ++ uvP (s.length : Int)).length := by simp; omega
    rw [e1, e2, List.take_length, List.drop_left]
    simp
    omega
theorem dec_enc (suf : List Int) (hw : ∀ x ∈ suf, 0 ≤ x ∧ x ≤ 1000000000000) : ∀ (p acc : List Int), decF (p ++ encP suf) suf.length (p.length : Int) acc = (acc ++ suf, ((p ++ encP suf).length : Int), true) := by
  induction suf with
  | nil => intro p acc; simp [decF, encP]
  | cons x suf ih =>
    intro p acc
    have hx := hw x (by simp)
    have er := readP_put p (encP suf) x hx.1 hx.2
    have hi := ih (fun y hy => hw y (by simp [hy])) (p ++ uvP x) (acc ++ [x])
    simp only [List.length_cons, decF, encP]
    rw [er]
    simp only [if_true]
    rw [← List.append_assoc]
    rw [List.length_append, Int.natCast_add] at hi
    rw [hi]
    simp
theorem dec_more (suf : List Int) (hw : ∀ x ∈ suf, 0 ≤ x ∧ x ≤ 1000000000000) : ∀ (p acc : List Int), decF (p ++ encP suf) (suf.length + 1) (p.length : Int) acc = ([], 0, false) := by
  induction suf with
  | nil =>
    intro p acc
    have er : readP p (p.length : Int) = (0, 0, false) := if_neg (by omega)
    simp [decF, encP, er]
  | cons x suf ih =>
    intro p acc
    have hx := hw x (by simp)
    have er := readP_put p (encP suf) x hx.1 hx.2
    have hi := ih (fun y hy => hw y (by simp [hy])) (p ++ uvP x) (acc ++ [x])
    rw [List.length_cons, show encP (x :: suf) = uvP x ++ encP suf from rfl, decF, er]
    simp only [if_true]
    rw [← List.append_assoc]
    rw [List.length_append, Int.natCast_add] at hi
    exact hi
theorem encP_bytes (l : List Int) : ∀ x ∈ encP l, 0 ≤ x ∧ x ≤ 255 := by
  induction l with
  | nil => intro x h; simp [encP] at h
  | cons y l ih =>
    intro x h
    simp only [encP] at h
    rcases List.mem_append.1 h with h | h
    · exact uvP_bytes y x h
    · exact ih x h
theorem at_some (l : List Int) (i : Int) (hl : l.length ≤ 1048576) (h0 : 0 ≤ i) (h1 : i ≤ 1000) (hw : ∀ x ∈ l, 0 ≤ x ∧ x ≤ 255) : ∃ v, laws_at.f l i = some v ∧ 0 ≤ v ∧ v ≤ 255 := by
  unfold laws_at.f
  have hr := rd_byte hw i
  by_cases h : i < (l.length : Int)
  · rw [if_pos h, if_pos h0, wrap_ok (by omega)]
    exact ⟨_, rfl, hr⟩
  · rw [if_neg h, wrap_ok (n := i * 31) (by omega), wrap_ok (n := (l.length : Int) * 7) (by omega), wrap_ok (by omega)]
    have ht := tmod_pos_bounds (i * 31 + (l.length : Int) * 7) 256 (by omega) (by omega)
    exact ⟨_, rfl, ht.1, by omega⟩
theorem triple (x y z : Int) (hx : 0 ≤ x ∧ x ≤ 255) (hy : 0 ≤ y ∧ y ≤ 255) (hz : 0 ≤ z ∧ z ≤ 255) : 0 ≤ wrap64 (wrap64 (x * y) * z) ∧ wrap64 (wrap64 (x * y) * z) ≤ 1000000000000 := by
  have a0 := Int.mul_nonneg hx.1 hy.1
  have a1 : x * y ≤ 255 * 255 := Int.mul_le_mul hx.2 hy.2 hy.1 (by omega)
  have b0 := Int.mul_nonneg a0 hz.1
  have b1 : x * y * z ≤ 255 * 255 * 255 := Int.mul_le_mul a1 hz.2 hz.1 (by omega)
  rw [wrap_ok (n := x * y) (by omega), wrap_ok (by omega)]
  omega
theorem lists_end (l0 l : List Int) (hl : l.length ≤ 6) (hw : ∀ x ∈ l, 0 ≤ x ∧ x ≤ 1000000000000) : Ev (fun k => (impl_EncodeInts.f k l).bind fun t246 => ((impl_DecodeInts.f k t246 0 (l.length : Int)).bind fun bt249 => ((impl_DecodeInts.f k t246 0 (wrap64 ((l.length : Int) + 1))).bind fun bt254 => (if bt249.2.2 = true then ((laws_sameInts.f k bt249.1 l).bind fun t259 => (if t259 = true then (if bt249.2.1 = (t246.length : Int) then (some (!bt254.2.2)) else (some false)) else (some false))) else (some false))))) true := by
  have he := encP_len l
  have hb := encP_bytes l
  have d1 : decP (encP l) 0 (l.length : Int) = (l, ((encP l).length : Int), true) := by
    unfold decP
    rw [if_pos ⟨⟨by omega, by omega⟩, by omega, by omega⟩]
    exact dec_enc l hw [] []
  have d2 : decP (encP l) 0 ((l.length : Int) + 1) = ([], 0, false) := by
    unfold decP
    rw [if_pos ⟨⟨by omega, by omega⟩, by omega, by omega⟩]
    exact dec_more l hw [] []
  refine ev_bind (implEnc_ev l (by omega)) ?_
  refine ev_bind (implDec_ev (encP l) 0 (l.length : Int) (by omega) hb) ?_
  rw [wrap_ok (n := (l.length : Int) + 1) (by omega)]
  refine ev_bind (implDec_ev (encP l) 0 _ (by omega) hb) ?_
  rw [d1, d2]
  refine ev_pos rfl ?_
  refine ev_bind (siX_same l (by omega)) ?_
  refine ev_pos rfl ?_
  refine ev_pos rfl ?_
  exact Ev.now true
theorem lists_loop (l0 : List Int) (hl : l0.length ≤ 1048576) (hw : ∀ x ∈ l0, 0 ≤ x ∧ x ≤ 255) (t : Int) (ht : laws_at.f l0 0 = some t) (ht0 : 0 ≤ t) : ∀ (m : Nat) (i : Int) (l : List Int), 0 ≤ i → i + m = Int.tmod t 6 → (l.length : Int) = i → (∀ x ∈ l, 0 ≤ x ∧ x ≤ 1000000000000) → Ev (fun k => laws_FnByteStrings.l0 k l0 l i) true := by
  have hb := tmod_pos_bounds t 6 (by omega) ht0
  intro m
  induction m with
  | zero =>
    intro i l hi hm hli hlw
    refine Ev.step (fun k => ?_) (lists_end l0 l (by omega) hlw)
    simp only [laws_FnByteStrings.l0]
    rw [ht]
    simp only [Option.bind_some]
    rw [if_neg (by omega)]
  | succ m ih =>
    intro i l hi hm hli hlw
    obtain ⟨x, e1, hx⟩ := at_some l0 (i + 1) hl (by omega) (by omega) hw
    obtain ⟨y, e2, hy⟩ := at_some l0 (i + 2) hl (by omega) (by omega) hw
    obtain ⟨z, e3, hz⟩ := at_some l0 (i + 3) hl (by omega) (by omega) hw
    have h3 := triple x y z hx hy hz
    refine Ev.step (fun k => ?_) (ih (i + 1) (l ++ [wrap64 (wrap64 (x * y) * z)]) (by omega) (by omega) (by simp; omega) (by
      intro w hw2
      rcases List.mem_append.1 hw2 with h | h
      · exact hlw w h
      · simp at h; omega))
    simp only [laws_FnByteStrings.l0]
    rw [ht]
    simp only [Option.bind_some]
    rw [if_pos (by omega), wrap_ok (n := i + 1) (by omega), wrap_ok (n := i + 2) (by omega), wrap_ok (n := i + 3) (by omega), e1, e2, e3]
    simp only [Option.bind_some]
    rw [if_pos (by omega)]
theorem FnByteStrings : laws_FnByteStrings.Pure := by
  intro l0 _ _ hwf
  have hwb : ∀ x ∈ l0, 0 ≤ x ∧ x ≤ 255 := fun x hx => bounds_u8 (hwf x hx)
  refine Ev.rounds ?_
  unfold laws_FnByteStrings.f
  refine ev_call (rfl : laws_big.f l0 = some (decide ((l0.length : Int) > 1048576))) ?_
  by_cases hb : (l0.length : Int) > 1048576
  · refine ev_pos (by simp; omega) ?_
    exact Ev.now true
  · refine ev_neg (by simp; omega) ?_
    obtain ⟨b, d, e, hbl, hbw, hdl, hdw⟩ := drawAB_ev l0 (by omega)
    have hu := uvP_len (d.length : Int)
    have hxl : (b ++ uvP (d.length : Int) ++ d).length ≤ 13 := by simp; omega
    have hxw : ∀ x ∈ b ++ uvP (d.length : Int) ++ d, 0 ≤ x ∧ x ≤ 255 := by
      intro x hx
      rcases List.mem_append.1 hx with h | h
      · rcases List.mem_append.1 h with h | h
        · exact hbw x h
        · exact uvP_bytes _ x h
      · exact hdw x h
    refine ev_bind e ?_
    refine ev_bind (implAB_ev b d (by omega) (by omega)) ?_
    refine ev_bind (implRB_ev _ (b.length : Int) (d.length : Int) (by omega) hxw) ?_
    rw [wrap_ok (n := (d.length : Int) - 1) (by omega)]
    refine ev_bind (implRB_ev _ (b.length : Int) ((d.length : Int) - 1) (by omega) hxw) ?_
    rw [readBytes_put b d _ (by omega), readBytes_put b d _ (by omega), if_neg (by omega), if_pos (by omega)]
    refine ev_pos rfl ?_
    refine ev_bind (sbX_same d (by omega)) ?_
    refine ev_pos rfl ?_
    refine ev_pos rfl ?_
    obtain ⟨t, et, t0, t1⟩ := at_some l0 0 (by omega) (by omega) (by omega) hwb
    have ht := tmod_pos_bounds t 6 (by omega) t0
    refine Ev.step (fun k => laws_FnByteStrings.j0.eq_2 _ _ k) ?_
    refine ev_neg (by simp) ?_
    exact lists_loop l0 (by omega) hwb t et t0 (Int.tmod t 6).toNat 0 [] (by omega) (by omega) rfl (by simp)

end Go.Proofs.Ytbjecehiappdead.Pure

/-- The words' fact, under the name by which the row asks for it. -/
theorem Go.Proofs.Ytbjecehiappdead.PrintWords.sized_ints {H : Type} {enc : Go.TypeId × Go.Value → H} {P : Go.Program} {W : Go.World} {base : Nat} {spare : Nat → Bool} {held : Bool} {t e : Go.TypeId} {k : Go.IntKind} {a : Option Go.Addr} {len cap : Nat} {d : Go.DataW H} {ps : List Go.MemPlace} {ts : List Go.TypeId} {ds : List (Go.DataW H)} {j : Nat}
    (hsz : (Go.DataW.weightsEach P ts ds).all (· ≤ Go.reachBytes) = true) (ht : ts[j]? = some t) (hd : ds[j]? = some d) (hu : P.underlying t = some (.slice e)) (he : P.underlying e = some (.int k)) (hc : P.cellsOf e = 1) {B : Nat} (hB : P.bytesOf e = B)
    (h : Go.DataW.Trod enc P W base spare held t (.slice a len cap) d ps) : len * B ≤ 140737488351232 := Go.Proofs.YtbjecehiappdeadW.PrintWords.sized_ints hsz ht hd hu he hc hB h
