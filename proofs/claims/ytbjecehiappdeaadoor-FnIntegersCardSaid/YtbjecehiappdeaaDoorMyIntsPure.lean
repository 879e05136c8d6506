/- The law FnIntegers returns true at every list of bytes, in plain words on numbers and texts. No condition. -/
import Derived.Test.YtbjecehiappdeaaDoorMyInts
namespace Go.Proofs.YtbjecehiappdeaaDoor.MyIntsPure
open Go.RowKit Go.Proofs.YtbjecehiappdeaaDoorW.PrintWords Go.Proofs.YtbjecehiappdeaaDoorW.PrintLast Go.Proofs.YtbjecehiappdeaaDoorW.PrintMore Go.Proofs.YtbjecehiappdeaaDoor.MySpec Go.Proofs.YtbjecehiappdeaaDoor.MyDraw Go.Proofs.YtbjecehiappdeaaDoor.MyInts
set_option linter.unusedVariables false
set_option linter.unusedSimpArgs false

/-! ### Words on rounds and on lists -/
theorem ev_bind {α β : Type} {g : Nat → Option α} {f : Nat → α → Option β} {a : α} {r : β} (h : Ev g a) (k : Ev (fun n => f n a) r) : Ev (fun n => (g n).bind (f n)) r := Ev.bind h k
theorem ev_call {α β : Type} {o : Option α} {f : Nat → α → Option β} {a : α} {r : β} (h : o = some a) (k : Ev (fun n => f n a) r) : Ev (fun n => o.bind (f n)) r := by
  subst h; exact k
theorem ev_pos {α : Type} {c : Prop} [Decidable c] {f g : Nat → Option α} {r : α} (h : c) (e : Ev f r) : Ev (fun n => if c then f n else g n) r := by
  obtain ⟨K, hK⟩ := e
  exact ⟨K, fun n hn => by show (if c then f n else g n) = some r; rw [if_pos h]; exact hK n hn⟩
theorem ev_neg {α : Type} {c : Prop} [Decidable c] {f g : Nat → Option α} {r : α} (h : ¬ c) (e : Ev g r) : Ev (fun n => if c then f n else g n) r := by
  obtain ⟨K, hK⟩ := e
  exact ⟨K, fun n hn => by show (if c then f n else g n) = some r; rw [if_neg h]; exact hK n hn⟩
theorem ev_end {α : Type} {g : Nat → Option α} {r : α} (h : ∀ k, g (k + 1) = some r) : Ev g r := Ev.step (f := fun _ => some r) h (Ev.now r)
theorem ev_eq {α : Type} {g : Nat → Option α} {r r' : α} (h : Ev g r) (e : r = r') : Ev g r' := e ▸ h
theorem ev_some {α : Type} {g : Nat → Option α} {r : α} (h : ∀ k, g k = some r) : Ev g r := ⟨0, fun k _ => h k⟩
theorem wrap_ok {n : Int} (h : -9223372036854775808 ≤ n ∧ n ≤ 9223372036854775807) : wrap64 n = n := by unfold wrap64; omega
theorem rd_mid (pre : List Int) (x : Int) (suf : List Int) : rd (pre ++ x :: suf) (pre.length : Int) = x := by simp [rd]
theorem snoc_len (pre : List Int) (x : Int) : (((pre ++ [x]).length : Nat) : Int) = (pre.length : Int) + 1 := by simp
theorem mid_facts {l pre suf : List Int} {x : Int} (h : l = pre ++ x :: suf) (hl : l.length ≤ 35184372088832) :
    (pre.length : Int) < (l.length : Int) ∧ rd l (pre.length : Int) = x ∧ wrap64 ((pre.length : Int) + 1) = (((pre ++ [x]).length : Nat) : Int) ∧ l = (pre ++ [x]) ++ suf := by
  have hlen : l.length = pre.length + (suf.length + 1) := by rw [h]; simp
  refine ⟨by omega, by rw [h]; exact rd_mid pre x suf, ?_, by rw [h]; simp⟩
  rw [snoc_len]
  exact wrap_ok (by omega)
theorem end_facts {l pre : List Int} (h : l = pre ++ []) : l = pre ∧ ¬ (pre.length : Int) < (l.length : Int) := by
  rw [List.append_nil] at h
  subst h
  exact ⟨rfl, by omega⟩
/-- The marks m, m + 1, .. -/
def marks : Int → Nat → List Int
  | _, 0 => []
  | m, n + 1 => m :: marks (m + 1) n
theorem marks_length (m : Int) (n : Nat) : (marks m n).length = n := by
  induction n generalizing m with
  | zero => rfl
  | succ n ih => simp [marks, ih]

theorem tmod_pos_bounds (v m : Int) (hm : 0 < m) (hv : 0 ≤ v) : 0 ≤ Int.tmod v m ∧ Int.tmod v m < m := by
  rw [Int.tmod_eq_emod_of_nonneg hv]
  exact ⟨Int.emod_nonneg v (by omega), Int.emod_lt_of_pos v hm⟩

/-! ### The cursor of the draws -/
theorem and255_range (x : Int) : 0 ≤ Go.bits .and .i64 x 255 ∧ Go.bits .and .i64 x 255 ≤ 255 := by
  have h : ∀ a : BitVec 64, (a &&& (255#64)).toNat ≤ 255 := fun a => by rw [BitVec.toNat_and]; exact Nat.and_le_right
  have h2 := h (BitVec.ofInt 64 x)
  have e : Go.bits .and .i64 x 255 = IntKind.i64.wrap (((BitVec.ofInt 64 x &&& (255#64)).toNat : Nat) : Int) := rfl
  rw [e, IntKind.wrap_i64]
  omega
theorem byte_some (b : List Int) (i h : Int) (hb : b.length ≤ 1048576) (hi : 0 ≤ i) : ∃ x i' h', spec_l1Byte.f b i h = some (x, i', h') ∧ 0 ≤ x ∧ x ≤ 255 ∧ 0 ≤ i' := by
  unfold spec_l1Byte.f
  by_cases h1 : i < (b.length : Int)
  · rw [if_pos h1, if_pos hi]
    exact ⟨_, _, _, rfl, (and255_range _).1, (and255_range _).2, by rw [wrap_ok] <;> omega⟩
  · rw [if_neg h1]
    exact ⟨_, _, _, rfl, (and255_range _).1, (and255_range _).2, hi⟩
theorem below_some (b : List Int) (i h n : Int) (hb : b.length ≤ 1048576) (hi : 0 ≤ i) : ∃ x i' h', spec_l1Below.f b i h n = some (x, i', h') ∧ 0 ≤ x ∧ (0 < n → x < n) ∧ (n ≤ 0 → x = 0) ∧ 0 ≤ i' := by
  unfold spec_l1Below.f
  by_cases h1 : n ≤ 0
  · rw [if_pos h1]
    exact ⟨_, _, _, rfl, by omega, fun h => by omega, fun _ => rfl, hi⟩
  · rw [if_neg h1]
    have h0 : ¬ n = 0 := by omega
    by_cases h2 : n ≤ 256
    · rw [if_pos h2]
      obtain ⟨x, i1, k1, e1, x0, x1, j1⟩ := byte_some b i h hb hi
      rw [e1]
      simp only [Option.bind_some, if_neg h0]
      have ht := tmod_pos_bounds x n (by omega) x0
      exact ⟨_, _, _, rfl, ht.1, fun _ => ht.2, fun h => by omega, j1⟩
    · rw [if_neg h2]
      obtain ⟨x, i1, k1, e1, x0, x1, j1⟩ := byte_some b i h hb hi
      obtain ⟨y, i2, k2, e2, y0, y1, j2⟩ := byte_some b i1 k1 hb j1
      obtain ⟨z, i3, k3, e3, z0, z1, j3⟩ := byte_some b i2 k2 hb j2
      rw [e1]
      simp only [Option.bind_some, e2, e3, if_neg h0]
      rw [wrap_ok (n := x * 65536) (by omega), wrap_ok (n := y * 256) (by omega), wrap_ok (n := x * 65536 + y * 256) (by omega), wrap_ok (by omega)]
      have ht := tmod_pos_bounds (x * 65536 + y * 256 + z) n (by omega) (by omega)
      exact ⟨_, _, _, rfl, ht.1, fun _ => ht.2, fun h => by omega, j3⟩

theorem once_some (b : List Int) (i h n : Int) (hb : b.length ≤ 1048576) (hi : 0 ≤ i) : ∃ t i' h', spec_l1Once.f b i h n = some (t, i', h') ∧ 0 ≤ i' := by
  obtain ⟨x, i1, k1, e1, _, _, _, j1⟩ := below_some b i h n hb hi
  unfold spec_l1Once.f
  rw [e1]
  exact ⟨_, _, _, rfl, j1⟩

theorem pick_some (b : List Int) (i h : Int) (l : List Int) (hb : b.length ≤ 1048576) (hi : 0 ≤ i) (hl : 0 < l.length) : ∃ x i' h', spec_l1Int.f b i h l = some (x, i', h') ∧ x ∈ l ∧ 0 ≤ i' := by
  obtain ⟨x, i1, k1, e1, x0, x1, _, j1⟩ := below_some b i h (l.length : Int) hb hi
  have x2 := x1 (by omega)
  unfold spec_l1Int.f
  rw [e1]
  simp only [Option.bind_some, if_pos x0, if_pos x2]
  refine ⟨_, _, _, rfl, ?_, j1⟩
  unfold rd
  rw [List.getD_eq_getElem?_getD, List.getElem?_eq_getElem (by omega)]
  exact List.getElem_mem ..


theorem new_loop (l : List Int) (hl : l.length ≤ 1048576) : ∀ (n : Nat) (i h : Int), 0 ≤ i → (4000 : Int) - i ≤ n → ∃ h', Ev (fun k => spec_l1New.l0 k l h i) (l, 0, h') := by
  intro n
  induction n with
  | zero =>
    intro i h h0 h1
    refine ⟨h, ev_end fun k => ?_⟩
    simp only [spec_l1New.l0]
    by_cases h2 : i < (l.length : Int)
    · rw [if_pos h2, if_neg (by omega)]
    · rw [if_neg h2]
  | succ n ih =>
    intro i h h0 h1
    by_cases h2 : i < (l.length : Int)
    · by_cases h3 : i < 4000
      · obtain ⟨h', e⟩ := ih (i + 1) (Go.bits .and .i64 (wrap64 ((wrap64 ((wrap64 (h * 137)) + (wrap64 (rd l i)))) + 11)) 1073741823) (by omega) (by omega)
        refine ⟨h', Ev.step (fun k => ?_) e⟩
        simp only [spec_l1New.l0]
        rw [if_pos h2, if_pos h3, if_pos h0, wrap_ok (n := i + 1) (by omega)]
      · refine ⟨h, ev_end fun k => ?_⟩
        simp only [spec_l1New.l0]
        rw [if_pos h2, if_neg h3]
    · refine ⟨h, ev_end fun k => ?_⟩
      simp only [spec_l1New.l0]
      rw [if_neg h2]
theorem new_ev (l : List Int) (hl : l.length ≤ 1048576) : ∃ h, Ev (fun k => spec_l1New.f k l) (l, 0, h) := new_loop l hl 4000 0 _ (by omega) (by omega)

theorem num_some (b : List Int) (i h : Int) (hb : b.length ≤ 1048576) (hi : 0 ≤ i) : ∃ v i' h', spec_l1Num.f b i h = some (v, i', h') ∧ 0 ≤ v ∧ v ≤ 1000000000000 ∧ 0 ≤ i' := by
  unfold spec_l1Num.f
  obtain ⟨t, i1, k1, e1, t0, t1, _, j1⟩ := below_some b i h 4 hb hi
  rw [e1]
  simp only [Option.bind_some]
  by_cases h0 : t = 0
  · rw [if_pos h0]
    obtain ⟨x, i2, k2, e2, x0, x1, _, j2⟩ := below_some b i1 k1 2000 hb j1
    have x2 := x1 (by omega)
    rw [e2]
    exact ⟨_, _, _, rfl, by simp only []; omega, by simp only []; omega, j2⟩
  · rw [if_neg h0]
    by_cases h1 : t = 1
    · rw [if_pos h1]
      obtain ⟨x, i2, k2, e2, hx, j2⟩ := pick_some b i1 k1 [0, 1, 127, 128, 2147483646, 2147483647, 1000000000000] hb j1 (by simp)
      rw [e2]
      refine ⟨_, _, _, rfl, ?_, ?_, j2⟩ <;> (simp at hx; rcases hx with rfl | rfl | rfl | rfl | rfl | rfl | rfl <;> simp)
    · rw [if_neg h1]
      by_cases h2 : t = 2
      · rw [if_pos h2]
        obtain ⟨x, i3, k3, e3, x0, x1, _, j3⟩ := below_some b i1 k1 1000000 hb j1
        obtain ⟨y, i4, k4, e4, y0, y1, _, j4⟩ := below_some b i3 k3 1000000 hb j3
        have x2 := x1 (by omega)
        have y2 := y1 (by omega)
        rw [e3]
        simp only [Option.bind_some, e4]
        have hm : 0 ≤ x * y := Int.mul_nonneg x0 y0
        have hm2 : x * y ≤ 1000000 * 1000000 := Int.mul_le_mul (by omega) (by omega) y0 (by omega)
        refine ⟨_, _, _, rfl, ?_, ?_, j4⟩ <;> (rw [wrap_ok] <;> omega)
      · rw [if_neg h2]
        obtain ⟨x, i2, k2, e2, x0, x1, _, j2⟩ := below_some b i1 k1 20 hb j1
        have x2 := x1 (by omega)
        rw [e2]
        exact ⟨_, _, _, rfl, by simp only []; omega, by simp only []; omega, j2⟩

theorem odd_some (b : List Int) (i h : Int) (hb : b.length ≤ 1048576) (hi : 0 ≤ i) : ∃ v i' h', spec_l1Odd.f b i h = some (v, i', h') ∧ -9223372036854775808 ≤ v ∧ v ≤ 9223372036854775807 ∧ 0 ≤ i' := by
  unfold spec_l1Odd.f
  obtain ⟨x, i2, k2, e2, hx, j2⟩ := pick_some b i h [(-1), 0, 1, 2, 255, 256, 65535, 2147483647, 2147483648, 4294967295, 4294967296, (-2147483648), 9223372036854775807, (-9223372036854775808)] hb hi (by simp)
  rw [e2]
  refine ⟨_, _, _, rfl, ?_, ?_, j2⟩ <;> (simp at hx; omega)
theorem raw_some (b : List Int) (i h : Int) (hb : b.length ≤ 1048576) (hi : 0 ≤ i) : ∃ v i' h', spec_l1Raw.f b i h = some (v, i', h') ∧ -9223372036854775808 ≤ v ∧ v ≤ 9223372036854775807 ∧ 0 ≤ i' := by
  unfold spec_l1Raw.f
  obtain ⟨t, i1, k1, e1, j1⟩ := once_some b i h 2 hb hi
  rw [e1]
  simp only [Option.bind_some]
  by_cases ht : t = true
  · rw [if_pos ht]
    obtain ⟨x, i2, k2, e2, x0, x1, j2⟩ := odd_some b i1 k1 hb j1
    rw [e2]
    exact ⟨_, _, _, rfl, x0, x1, j2⟩
  · rw [if_neg ht]
    obtain ⟨x, i2, k2, e2, hx, j2⟩ := pick_some b i1 k1 [(-1), 1000000000000, 1000000000001] hb j1 (by simp)
    rw [e2]
    refine ⟨_, _, _, rfl, ?_, ?_, j2⟩ <;> (simp at hx; rcases hx with rfl | rfl | rfl <;> simp)
theorem one_some (b : List Int) (i h : Int) (hb : b.length ≤ 1048576) (hi : 0 ≤ i) : ∃ v i' h', spec_l1One.f b i h = some (v, i', h') ∧ -9223372036854775808 ≤ v ∧ v ≤ 9223372036854775807 ∧ 0 ≤ i' := by
  unfold spec_l1One.f
  obtain ⟨t, i1, k1, e1, j1⟩ := once_some b i h 6 hb hi
  rw [e1]
  simp only [Option.bind_some]
  by_cases ht : t = true
  · rw [if_pos ht]
    obtain ⟨x, i2, k2, e2, x0, x1, j2⟩ := raw_some b i1 k1 hb j1
    rw [e2]
    exact ⟨_, _, _, rfl, x0, x1, j2⟩
  · rw [if_neg ht]
    obtain ⟨x, i2, k2, e2, x0, x1, j2⟩ := num_some b i1 k1 hb j1
    rw [e2]
    exact ⟨_, _, _, rfl, by simp only []; omega, by simp only []; omega, j2⟩

theorem str_some (b : List Int) (i h : Int) (l : List ByteArray) (hb : b.length ≤ 1048576) (hi : 0 ≤ i) (hl : 0 < l.length) : ∃ x i' h', spec_l1Str.f b i h l = some (x, i', h') := by
  obtain ⟨x, i1, k1, e1, x0, x1, _, j1⟩ := below_some b i h (l.length : Int) hb hi
  have x2 := x1 (by omega)
  unfold spec_l1Str.f
  rw [e1]
  simp only [Option.bind_some, if_pos x0, if_pos x2]
  exact ⟨_, _, _, rfl⟩
theorem drawParse_ev (l : List Int) (hl : l.length ≤ 1048576) : ∃ s, Ev (fun k => spec_DrawParseInt.f k l) s := by
  obtain ⟨h, e⟩ := new_ev l hl
  obtain ⟨t, i1, k1, e1, j1⟩ := once_some l 0 h 2 hl (by omega)
  unfold spec_DrawParseInt.f
  by_cases ht : t = true
  · obtain ⟨s, i2, k2, e2⟩ := str_some l i1 k1 ([(⟨#[]⟩ : ByteArray), (⟨#[48]⟩ : ByteArray), (⟨#[48, 48]⟩ : ByteArray), (⟨#[45, 49]⟩ : ByteArray), (⟨#[48, 49]⟩ : ByteArray), (⟨#[55]⟩ : ByteArray), (⟨#[49, 48, 48, 48, 48, 48, 48, 48, 48, 48, 48, 48, 48]⟩ : ByteArray), (⟨#[49, 48, 48, 48, 48, 48, 48, 48, 48, 48, 48, 48, 49]⟩ : ByteArray), (⟨#[57, 57, 57, 57, 57, 57, 57, 57, 57, 57, 57, 57, 57, 57]⟩ : ByteArray), (⟨#[49, 120]⟩ : ByteArray), (⟨#[32, 49]⟩ : ByteArray)] : List ByteArray) hl j1 (by simp)
    refine ⟨s, ?_⟩
    refine ev_bind e ?_
    refine ev_call e1 ?_
    refine ev_pos ht ?_
    refine ev_call e2 ?_
    exact Ev.now _
  · obtain ⟨v, i2, k2, e2, v0, v1, j2⟩ := num_some l i1 k1 hl j1
    obtain ⟨K, hK⟩ := MyPure.pure v (by omega) (by omega)
    refine ⟨⟨(Lib.itoa v).toArray⟩, ?_⟩
    refine ev_bind e ?_
    refine ev_call e1 ?_
    refine ev_neg ht ?_
    refine ev_call e2 ?_
    refine ev_bind ⟨K, hK⟩ ?_
    exact Ev.now _
theorem drawFormat_ev (l : List Int) (hl : l.length ≤ 1048576) : ∃ n, Ev (fun k => spec_DrawFormatInt.f k l) n ∧ -9223372036854775808 ≤ n ∧ n ≤ 9223372036854775807 := by
  obtain ⟨h, e⟩ := new_ev l hl
  obtain ⟨v, i1, k1, e1, v0, v1, _⟩ := one_some l 0 h hl (by omega)
  refine ⟨v, ?_, v0, v1⟩
  unfold spec_DrawFormatInt.f
  refine ev_bind e ?_
  refine ev_call e1 ?_
  exact Ev.now _
theorem drawCeil_ev (l : List Int) (hl : l.length ≤ 1048576) : ∃ a b, Ev (fun k => spec_DrawCeilDiv.f k l) (a, b) ∧ -9223372036854775808 ≤ a ∧ a ≤ 9223372036854775807 := by
  obtain ⟨h, e⟩ := new_ev l hl
  obtain ⟨v, i1, k1, e1, v0, v1, j1⟩ := one_some l 0 h hl (by omega)
  obtain ⟨u, i2, k2, e2, _, _, _⟩ := one_some l i1 k1 hl j1
  refine ⟨v, u, ?_, v0, v1⟩
  unfold spec_DrawCeilDiv.f
  refine ev_bind e ?_
  refine ev_call e1 ?_
  refine ev_call e2 ?_
  exact Ev.now _
/-! ### Numerals -/
theorem digit_val : ∀ d : Fin 10, Lib.digitVal (UInt8.ofNat (48 + d.val)) = some d.val := by decide +kernel
theorem dec_digits : ∀ (u : Nat) (r : List UInt8), Lib.decFrom 0 (Lib.decDigits u ++ r) = Lib.decFrom u r := by
  intro u
  induction u using Nat.strongRecOn with
  | _ u ih =>
    intro r
    rw [Lib.decDigits]
    by_cases h : u < 10
    · rw [dif_pos h, List.singleton_append]
      simp only [Lib.decFrom]
      rw [digit_val ⟨u, h⟩]
      simp
    · rw [dif_neg h, List.append_assoc, ih (u / 10) (by omega), List.singleton_append]
      simp only [Lib.decFrom]
      rw [digit_val ⟨u % 10, by omega⟩]
      show Lib.decFrom (u / 10 * 10 + u % 10) r = _
      rw [show u / 10 * 10 + u % 10 = u by omega]
theorem digits_len : ∀ (k u : Nat), 1 ≤ k → u < 10 ^ k → 1 ≤ (Lib.decDigits u).length ∧ (Lib.decDigits u).length ≤ k := by
  intro k
  induction k with
  | zero => intro u h; omega
  | succ k ih =>
    intro u _ hu
    rw [Lib.decDigits]
    by_cases h : u < 10
    · rw [dif_pos h]
      simp
    · rw [dif_neg h]
      have hk : 1 ≤ k := by
        rcases Nat.eq_zero_or_pos k with h0 | h0
        · subst h0
          rw [show (10 : Nat) ^ (0 + 1) = 10 from rfl] at hu
          omega
        · exact h0
      have h2 := ih (u / 10) hk (by rw [Nat.pow_succ] at hu; omega)
      simp
      omega
theorem parse_good (m : Int) (h0 : 0 ≤ m) (h1 : m ≤ 1000000000000) : MyJoin.parseP ⟨(Lib.itoa m).toArray⟩ = (m, true) := by
  have e : Lib.itoa m = Lib.decDigits m.toNat := if_neg (by omega)
  have hl := digits_len 13 m.toNat (by omega) (by rw [show (10 : Nat) ^ 13 = 10000000000000 from by decide]; omega)
  have hs : (⟨(Lib.itoa m).toArray⟩ : ByteArray).size = (Lib.decDigits m.toNat).length := by rw [e, MyPure.len]
  have hd : Lib.decFrom 0 (⟨(Lib.itoa m).toArray⟩ : ByteArray).data.toList = some m.toNat := by
    have := dec_digits m.toNat []
    rw [List.append_nil] at this
    rw [e]
    exact this
  unfold MyJoin.parseP
  rw [if_pos (by omega), hd]
  simp only [MyPure.endP]
  rw [if_neg (by omega), Int.toNat_of_nonneg h0, if_pos rfl]
theorem parse_out (m : Int) (h : ¬ (0 ≤ m ∧ m ≤ 1000000000000)) : (MyJoin.parseP ⟨(Lib.itoa m).toArray⟩).2 = false := by
  by_cases h0 : m < 0
  · have e : Lib.itoa m = 45 :: Lib.decDigits m.natAbs := if_pos h0
    rw [MyJoin.parseP_none _ (by rw [e]; rfl)]
  · have e : Lib.itoa m = Lib.decDigits m.toNat := if_neg h0
    have hd : Lib.decFrom 0 (⟨(Lib.itoa m).toArray⟩ : ByteArray).data.toList = some m.toNat := by
      have := dec_digits m.toNat []
      rw [List.append_nil] at this
      rw [e]
      exact this
    unfold MyJoin.parseP
    rw [hd]
    simp only [MyPure.endP]
    rw [if_pos (show 1000000000000 < m.toNat by omega)]
    split <;> rfl
theorem parse_ok (s : ByteArray) (h : (MyJoin.parseP s).2 = true) : 0 ≤ (MyJoin.parseP s).1 ∧ (MyJoin.parseP s).1 ≤ 1000000000000 ∧ (⟨(Lib.itoa (MyJoin.parseP s).1).toArray⟩ : ByteArray).toList = s.toList := by
  unfold MyJoin.parseP at h ⊢
  by_cases hs : 1 ≤ s.size ∧ s.size ≤ 13
  · rw [if_pos hs] at h ⊢
    cases hd : Lib.decFrom 0 s.data.toList with
    | none => rw [hd] at h; simp [MyPure.endP] at h
    | some m =>
      rw [hd] at h
      simp only [MyPure.endP] at h ⊢
      by_cases hm : 1000000000000 < m
      · rw [if_pos hm] at h; simp at h
      · rw [if_neg hm] at h ⊢
        by_cases he : (⟨(Lib.itoa (m : Int)).toArray⟩ : ByteArray).toList = s.toList
        · rw [if_pos he]
          exact ⟨by simp only []; omega, by simp only []; omega, he⟩
        · rw [if_neg he] at h; simp at h
  · rw [if_neg hs] at h
    simp at h
/-! ### CeilDiv and Mod -/
theorem tmod_emod (a b : Int) : Int.tmod a b % b = a % b := by
  have e := Int.mul_tdiv_add_tmod a b
  have e2 : a % b = (Int.tmod a b + b * Int.tdiv a b) % b := by rw [show Int.tmod a b + b * Int.tdiv a b = a by omega]
  rw [e2, Int.add_mul_emod_self_left]
theorem in_range (n a b : Int) : impl_InRange.f n a b = some (decide (a ≤ n ∧ n ≤ b)) := by
  unfold impl_InRange.f
  by_cases h : a ≤ n
  · rw [if_pos h]
    simp [h]
  · rw [if_neg h, decide_eq_false (by omega)]
theorem mod_in (a b : Int) (h0 : 1 ≤ b) (h1 : b ≤ 1000000000000) : impl_Mod.f a b = some (a % b) := by
  have hz : ¬ b = 0 := by omega
  unfold impl_Mod.f
  rw [in_range, decide_eq_true ⟨h0, h1⟩]
  simp only [Option.bind_some, if_true, if_neg hz]
  have hb : -b < Int.tmod a b ∧ Int.tmod a b < b := by
    have h := Int.natAbs_tmod a b
    have h2 : a.natAbs % b.natAbs < b.natAbs := Nat.mod_lt _ (by omega)
    omega
  rw [wrap_ok (by omega), Int.tmod_eq_emod_of_nonneg (by omega), Int.add_emod_right, tmod_emod]
theorem mod_out (a b : Int) (h : ¬ (1 ≤ b ∧ b ≤ 1000000000000)) : impl_Mod.f a b = some 0 := by
  unfold impl_Mod.f
  rw [in_range, decide_eq_false h]
  rfl
theorem ceil_in (a b : Int) (h0 : 0 ≤ a) (h1 : a ≤ 1000000000000) (h2 : 1 ≤ b) (h3 : b ≤ 1000000000000) : impl_CeilDiv.f a b = some ((a + b - 1) / b) := by
  have hz : ¬ b = 0 := by omega
  unfold impl_CeilDiv.f
  rw [in_range, in_range, decide_eq_true ⟨h0, h1⟩, decide_eq_true ⟨h2, h3⟩]
  simp only [Option.bind_some, if_true, if_neg hz]
  rw [wrap_ok (n := a + b) (by omega), wrap_ok (n := a + b - 1) (by omega), Int.tdiv_eq_ediv_of_nonneg (by omega)]
  have e0 : 0 ≤ (a + b - 1) / b := Int.ediv_nonneg (by omega) (by omega)
  have e1 : (a + b - 1) / b ≤ a + b - 1 := Int.ediv_le_self _ (by omega)
  rw [wrap_ok (by omega)]
theorem ceil_out (a b : Int) (h : ¬ ((0 ≤ a ∧ a ≤ 1000000000000) ∧ 1 ≤ b ∧ b ≤ 1000000000000)) : impl_CeilDiv.f a b = some 0 := by
  unfold impl_CeilDiv.f
  rw [in_range, in_range]
  by_cases h1 : 0 ≤ a ∧ a ≤ 1000000000000
  · rw [decide_eq_true h1, decide_eq_false (fun h2 => h ⟨h1, h2⟩)]
    rfl
  · rw [decide_eq_false h1]
    rfl
theorem j2_ev (a b q : Int) (b0 : 1 ≤ b) (b1 : b ≤ 1000000000000) (hq : impl_CeilDiv.f a b = some q) : Ev (fun k => laws_FnIntegers.j2 k a b q false) true := by
  refine Ev.step (fun k => laws_FnIntegers.j2.eq_2 _ _ _ _ k) ?_
  refine ev_neg (by simp) ?_
  by_cases h0 : a < 0
  · refine ev_pos h0 ?_
    rw [ceil_out a b (by omega)] at hq
    obtain rfl := Option.some.inj hq
    exact Ev.now _
  · refine ev_neg h0 ?_
    by_cases h1 : a > 1000000000000
    · refine ev_pos h1 ?_
      rw [ceil_out a b (by omega)] at hq
      obtain rfl := Option.some.inj hq
      exact Ev.now _
    · refine ev_neg h1 ?_
      rw [ceil_in a b (by omega) (by omega) b0 b1] at hq
      obtain rfl := Option.some.inj hq
      have e := Int.emod_add_mul_ediv (a + b - 1) b
      have m0 := Int.emod_nonneg (a + b - 1) (show b ≠ 0 by omega)
      have m1 := Int.emod_lt_of_pos (a + b - 1) (show 0 < b by omega)
      have c : (a + b - 1) / b * b = b * ((a + b - 1) / b) := Int.mul_comm _ _
      have w1 : wrap64 ((a + b - 1) / b * b) = (a + b - 1) / b * b := wrap_ok (by omega)
      have w2 : wrap64 ((a + b - 1) / b * b - a) = (a + b - 1) / b * b - a := wrap_ok (by omega)
      rw [w1, w2]
      refine ev_pos (by omega) ?_
      rw [decide_eq_true (by omega)]
      exact Ev.now _
theorem j1_ev (a b q r : Int) (hq : impl_CeilDiv.f a b = some q) (hr : impl_Mod.f a b = some r) (x : Bool) (hx : x = decide (¬ (1 ≤ b ∧ b ≤ 1000000000000))) : Ev (fun k => laws_FnIntegers.j1 k a b q r x) true := by
  refine Ev.step (fun k => laws_FnIntegers.j1.eq_2 _ _ _ _ _ k) ?_
  by_cases hb : 1 ≤ b ∧ b ≤ 1000000000000
  · rw [decide_eq_false (by omega)] at hx
    subst hx
    rw [mod_in a b hb.1 hb.2] at hr
    obtain rfl := Option.some.inj hr
    have hz : ¬ b = 0 := by omega
    have m0 := Int.emod_nonneg a hz
    have m1 := Int.emod_lt_of_pos a (show 0 < b by omega)
    have hbt : -b < Int.tmod a b ∧ Int.tmod a b < b := by
      have h := Int.natAbs_tmod a b
      have h2 : a.natAbs % b.natAbs < b.natAbs := Nat.mod_lt _ (by omega)
      omega
    have hd : Int.tmod (wrap64 (Int.tmod a b - a % b)) b = 0 := by
      rw [wrap_ok (by omega)]
      apply Int.tmod_eq_zero_of_dvd
      apply Int.dvd_of_emod_eq_zero
      rw [Int.sub_emod, tmod_emod, Int.emod_emod, Int.sub_self, Int.zero_emod]
    refine ev_neg (by simp) ?_
    refine ev_neg (by omega) ?_
    refine ev_neg (by omega) ?_
    refine ev_neg hz ?_
    rw [hd]
    exact j2_ev a b q hb.1 hb.2 hq
  · rw [decide_eq_true hb] at hx
    subst hx
    rw [mod_out a b hb] at hr
    obtain rfl := Option.some.inj hr
    rw [ceil_out a b (by omega)] at hq
    obtain rfl := Option.some.inj hq
    refine ev_pos rfl ?_
    refine ev_pos rfl ?_
    exact Ev.now _
theorem j0_ev (a b q r : Int) (hq : impl_CeilDiv.f a b = some q) (hr : impl_Mod.f a b = some r) : Ev (fun k => laws_FnIntegers.j0 k a b q r false) true := by
  refine Ev.step (fun k => laws_FnIntegers.j0.eq_2 _ _ _ _ _ k) ?_
  refine ev_neg (by simp) ?_
  by_cases h : b < 1
  · refine ev_pos h ?_
    exact j1_ev a b q r hq hr true (by rw [decide_eq_true (by omega)])
  · refine ev_neg h ?_
    exact j1_ev a b q r hq hr _ (by rw [decide_eq_decide]; omega)
theorem ceil_some (a b : Int) : ∃ q, impl_CeilDiv.f a b = some q := by
  by_cases h : (0 ≤ a ∧ a ≤ 1000000000000) ∧ 1 ≤ b ∧ b ≤ 1000000000000
  · exact ⟨_, ceil_in a b h.1.1 h.1.2 h.2.1 h.2.2⟩
  · exact ⟨_, ceil_out a b h⟩
theorem mod_some (a b : Int) : ∃ r, impl_Mod.f a b = some r := by
  by_cases h : 1 ≤ b ∧ b ≤ 1000000000000
  · exact ⟨_, mod_in a b h.1 h.2⟩
  · exact ⟨_, mod_out a b h⟩
theorem FnIntegers : laws_FnIntegers.Pure := by
  intro l0 _ _ _
  refine Ev.rounds ?_
  unfold laws_FnIntegers.f
  refine ev_call (rfl : laws_big.f l0 = some (decide ((l0.length : Int) > 1048576))) ?_
  by_cases hb : (l0.length : Int) > 1048576
  · refine ev_pos (by simp; omega) ?_
    exact Ev.now true
  · refine ev_neg (by simp; omega) ?_
    obtain ⟨s, es⟩ := drawParse_ev l0 (by omega)
    obtain ⟨m, em, m0, m1⟩ := drawFormat_ev l0 (by omega)
    obtain ⟨a, b, eab, a0, a1⟩ := drawCeil_ev l0 (by omega)
    obtain ⟨q, hq⟩ := ceil_some a b
    obtain ⟨r, hr⟩ := mod_some a b
    have tail := j0_ev a b q r hq hr
    have fmt : ∀ n : Int, -9223372036854775808 ≤ n → n ≤ 9223372036854775807 → impl_FormatInt.f n = some ⟨(Lib.itoa n).toArray⟩ := by
      intro n h0 h1
      unfold impl_FormatInt.f
      rw [if_pos h0, if_pos h1]
    refine ev_bind es ?_
    refine ev_call (rfl : impl_ParseInt.f s = some (MyJoin.parseP s)) ?_
    refine ev_bind em ?_
    refine ev_call (fmt m m0 m1) ?_
    refine ev_call (rfl : impl_ParseInt.f ⟨(Lib.itoa m).toArray⟩ = some (MyJoin.parseP ⟨(Lib.itoa m).toArray⟩)) ?_
    refine ev_bind eab ?_
    refine ev_call hq ?_
    refine ev_call hr ?_
    have second : Ev (fun k => if m ≥ 0 then (if ((MyJoin.parseP ⟨(Lib.itoa m).toArray⟩).2 != (decide (m ≤ 1000000000000))) = true then (laws_FnIntegers.j0 k a b q r true) else (if (MyJoin.parseP ⟨(Lib.itoa m).toArray⟩).2 = true then (laws_FnIntegers.j0 k a b q r ((MyJoin.parseP ⟨(Lib.itoa m).toArray⟩).1 != m)) else (laws_FnIntegers.j0 k a b q r false))) else (if ((MyJoin.parseP ⟨(Lib.itoa m).toArray⟩).2 != false) = true then (laws_FnIntegers.j0 k a b q r true) else (if (MyJoin.parseP ⟨(Lib.itoa m).toArray⟩).2 = true then (laws_FnIntegers.j0 k a b q r ((MyJoin.parseP ⟨(Lib.itoa m).toArray⟩).1 != m)) else (laws_FnIntegers.j0 k a b q r false)))) true := by
      by_cases hm : 0 ≤ m ∧ m ≤ 1000000000000
      · rw [parse_good m hm.1 hm.2]
        refine ev_pos hm.1 ?_
        refine ev_neg (by simp; omega) ?_
        refine ev_pos rfl ?_
        rw [show (((m, true) : Int × Bool).1 != m) = false by simp]
        exact tail
      · rw [parse_out m hm]
        by_cases h0 : m ≥ 0
        · refine ev_pos h0 ?_
          refine ev_neg (by simp; omega) ?_
          refine ev_neg (by simp) ?_
          exact tail
        · refine ev_neg h0 ?_
          refine ev_neg (by simp) ?_
          refine ev_neg (by simp) ?_
          exact tail
    by_cases ok : (MyJoin.parseP s).2 = true
    · obtain ⟨n0, n1, ne⟩ := parse_ok s ok
      refine ev_pos ok ?_
      refine ev_call (fmt _ (by omega) (by omega)) ?_
      refine ev_pos ne ?_
      exact second
    · refine ev_neg ok ?_
      exact second

end Go.Proofs.YtbjecehiappdeaaDoor.MyIntsPure
