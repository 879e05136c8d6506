/- The law FnKeyedHash returns true at every list of bytes: changing one value modulo Modulus changes the keyed hash, and derived keys are valid. No condition. -/
import Derived.Test.YtbjecehiappdeacQFnKeyedHashx3
import Derived.OpenShut
import Derived.Test.YtbjecehiappdeacWSized
namespace Go.Proofs.Ytbjecehiappdeac.Pure
open Go.RowKit Go.Proofs.Ytbjecehiappdeac.QFnKeyedHash Go.Proofs.YtbjecehiappdeacW.PrintWords Go.Proofs.YtbjecehiappdeacW.PrintLast Go.Proofs.YtbjecehiappdeacW.PrintMore
set_option linter.unusedVariables false
set_option linter.unusedSimpArgs false

/-! ### Words on rounds and on lists -/
theorem ev_bind {α β : Type} {g : Nat → Option α} {f : Nat → α → Option β} {a : α} {r : β} (h : Ev g a) (k : Ev (fun n => f n a) r) : Ev (fun n => (g n).bind (f n)) r := Ev.bind h k
theorem ev_call {α β : Type} {o : Option α} {f : Nat → α → Option β} {a : α} {r : β} (h : o = some a) (k : Ev (fun n => f n a) r) : Ev (fun n => o.bind (f n)) r := by
  subst h; exact k
theorem ev_pos {α : Type} {c : Prop} [Decidable c] {f g : Nat → Option α} {r : α} (h : c) (e : Ev f r) : Ev (fun n => if c then f n else g n) r := by
  obtain ⟨K, hK⟩ := e
  exact ⟨K, fun n hn => by show (if c then f n else g n) = some r; rw [if_pos h]; exact hK n hn⟩
theorem ev_neg {α : Type} {c : Prop} [Decidable c] {f g : Nat → Option α} {r : α} (h : ¬ c) (e : Ev g r) : Ev (fun n => if c then f n else g n) r := by
  obtain ⟨K, hK⟩ := e
  exact ⟨K, fun n hn => by show (if c then f n else g n) = some r; rw [if_neg h]; exact hK n hn⟩
theorem ev_end {α : Type} {g : Nat → Option α} {r : α} (h : ∀ k, g (k + 1) = some r) : Ev g r := Ev.step (f := fun _ => some r) h (Ev.now r)
theorem ev_eq {α : Type} {g : Nat → Option α} {r r' : α} (h : Ev g r) (e : r = r') : Ev g r' := e ▸ h
theorem ev_some {α : Type} {g : Nat → Option α} {r : α} (h : ∀ k, g k = some r) : Ev g r := ⟨0, fun k _ => h k⟩
theorem wrap_ok {n : Int} (h : -9223372036854775808 ≤ n ∧ n ≤ 9223372036854775807) : wrap64 n = n := by unfold wrap64; omega
theorem rd_mid (pre : List Int) (x : Int) (suf : List Int) : rd (pre ++ x :: suf) (pre.length : Int) = x := by simp [rd]
theorem snoc_len (pre : List Int) (x : Int) : (((pre ++ [x]).length : Nat) : Int) = (pre.length : Int) + 1 := by simp
theorem mid_facts {l pre suf : List Int} {x : Int} (h : l = pre ++ x :: suf) (hl : l.length ≤ 35184372088832) :
    (pre.length : Int) < (l.length : Int) ∧ rd l (pre.length : Int) = x ∧ wrap64 ((pre.length : Int) + 1) = (((pre ++ [x]).length : Nat) : Int) ∧ l = (pre ++ [x]) ++ suf := by
  have hlen : l.length = pre.length + (suf.length + 1) := by rw [h]; simp
  refine ⟨by omega, by rw [h]; exact rd_mid pre x suf, ?_, by rw [h]; simp⟩
  rw [snoc_len]
  exact wrap_ok (by omega)
theorem end_facts {l pre : List Int} (h : l = pre ++ []) : l = pre ∧ ¬ (pre.length : Int) < (l.length : Int) := by
  rw [List.append_nil] at h
  subst h
  exact ⟨rfl, by omega⟩
/-- The marks m, m + 1, .. -/
def marks : Int → Nat → List Int
  | _, 0 => []
  | m, n + 1 => m :: marks (m + 1) n
theorem marks_length (m : Int) (n : Nat) : (marks m n).length = n := by
  induction n generalizing m with
  | zero => rfl
  | succ n ih => simp [marks, ih]

theorem tmod_pos_bounds (v m : Int) (hm : 0 < m) (hv : 0 ≤ v) : 0 ≤ Int.tmod v m ∧ Int.tmod v m < m := by
  rw [Int.tmod_eq_emod_of_nonneg hv]
  exact ⟨Int.emod_nonneg v (by omega), Int.emod_lt_of_pos v hm⟩

theorem rd_byte {b : List Int} (hw : ∀ x ∈ b, 0 ≤ x ∧ x ≤ 255) (i : Int) : 0 ≤ rd b i ∧ rd b i ≤ 255 := by
  unfold rd
  rw [List.getD_eq_getElem?_getD]
  cases h : b[i.toNat]? with
  | none => simp
  | some x => exact hw x (List.mem_of_getElem? h)

/-! ### Mod at Modulus -/
def modM (v : Int) : Int := Int.tmod (wrap64 ((Int.tmod v 2147483647) + 2147483647)) 2147483647
def hstep (d v : Int) : Int := Int.tmod (wrap64 ((wrap64 ((wrap64 (d * 1000003)) + modM v)) + 13)) 2147483647
def hashP (l : List Int) : Int := l.foldl hstep 11
theorem tmod_bounds (v m : Int) (hm : 0 < m) : -m < Int.tmod v m ∧ Int.tmod v m < m := by
  have h := Int.natAbs_tmod v m
  have h2 : v.natAbs % m.natAbs < m.natAbs := Nat.mod_lt _ (by omega)
  omega
theorem tmod_nonneg_bounds (v m : Int) (hm : 0 < m) (hv : 0 ≤ v) : 0 ≤ Int.tmod v m ∧ Int.tmod v m < m := by
  rw [Int.tmod_eq_emod_of_nonneg hv]
  exact ⟨Int.emod_nonneg v (by omega), Int.emod_lt_of_pos v hm⟩
theorem modM_range (v : Int) : 0 ≤ modM v ∧ modM v < 2147483647 := by
  unfold modM
  have h := tmod_bounds v 2147483647 (by omega)
  rw [wrap_ok (by omega)]
  exact tmod_nonneg_bounds _ _ (by omega) (by omega)
theorem hstep_plain (d v : Int) (h0 : 0 ≤ d) (h1 : d < 2147483647) : hstep d v = (d * 1000003 + modM v + 13) % 2147483647 := by
  have h := modM_range v
  unfold hstep
  rw [wrap_ok (n := d * 1000003) (by omega), wrap_ok (n := d * 1000003 + modM v) (by omega), wrap_ok (by omega), Int.tmod_eq_emod_of_nonneg (by omega)]
theorem hstep_range (d v : Int) (h0 : 0 ≤ d) (h1 : d < 2147483647) : 0 ≤ hstep d v ∧ hstep d v < 2147483647 := by
  rw [hstep_plain d v h0 h1]
  omega
theorem hash_range_from (l : List Int) : ∀ d, 0 ≤ d → d < 2147483647 → 0 ≤ l.foldl hstep d ∧ l.foldl hstep d < 2147483647 := by
  induction l with
  | nil => intro d h0 h1; exact ⟨h0, h1⟩
  | cons x l ih =>
    intro d h0 h1
    have h := hstep_range d x h0 h1
    exact ih _ h.1 h.2
theorem hash_range (l : List Int) : 0 ≤ hashP l ∧ hashP l < 2147483647 := hash_range_from l 11 (by omega) (by omega)

theorem impl_mod (v : Int) : impl_Mod.f v 2147483647 = some (modM v) := by
  unfold impl_Mod.f impl_InRange.f modM
  simp
theorem implHash_loop (l : List Int) (hl : l.length ≤ 17592186044416) : ∀ (suf pre : List Int) (d : Int), l = pre ++ suf → Ev (fun k => impl_Hash.l0 k d l (l.length : Int) (pre.length : Int)) (suf.foldl hstep d) := by
  intro suf
  induction suf with
  | nil =>
    intro pre d h
    obtain ⟨_, h2⟩ := end_facts h
    refine ev_end fun k => ?_
    simp only [impl_Hash.l0]
    rw [if_neg h2]
    rfl
  | cons x suf ih =>
    intro pre d h
    obtain ⟨h1, h2, h3, h4⟩ := mid_facts h (by omega)
    refine Ev.step (fun k => ?_) (ev_eq (ih (pre ++ [x]) (hstep d x) h4) rfl)
    simp only [impl_Hash.l0]
    rw [if_pos h1, if_pos (by omega), if_pos h1, h2, h3, impl_mod]
    rfl
theorem implHash_ev (l : List Int) (hl : l.length ≤ 17592186044416) : Ev (fun k => impl_Hash.f k l) (hashP l) := implHash_loop l hl l [] 11 rfl

def keyedP (key : Int) (l : List Int) : Int := hashP (key :: (l ++ [key]))
theorem keyed_range (key : Int) (l : List Int) : 0 ≤ keyedP key l ∧ keyedP key l < 2147483647 := hash_range _

theorem implKeyed_ev (key : Int) (l : List Int) (hl : l.length ≤ 17592186044000) : Ev (fun k => impl_KeyedHash.f k key l) (keyedP key l) := by
  unfold impl_KeyedHash.f
  refine ev_call rfl ?_
  refine ev_pos (by simp; omega) ?_
  refine ev_call rfl ?_
  refine ev_pos (by simp; omega) ?_
  refine ev_bind (implHash_ev _ (by simp; omega)) ?_
  exact ev_some fun _ => by simp [keyedP]

theorem implB2I_loop (l : List Int) (hl : l.length ≤ 1048576) (hw : ∀ x ∈ l, 0 ≤ x ∧ x ≤ 255) : ∀ (suf pre acc : List Int), l = pre ++ suf → acc.length = pre.length + 1 → Ev (fun k => impl_BytesToInts.l0 k acc l (l.length : Int) (pre.length : Int)) (acc ++ suf) := by
  intro suf
  induction suf with
  | nil =>
    intro pre acc h hacc
    obtain ⟨_, h2⟩ := end_facts h
    refine ev_end fun k => ?_
    simp only [impl_BytesToInts.l0]
    rw [if_neg h2]
    simp
  | cons x suf ih =>
    intro pre acc h hacc
    obtain ⟨h1, h2, h3, h4⟩ := mid_facts h (by omega)
    have hx := hw x (by rw [h]; simp)
    refine Ev.step (fun k => ?_) (ev_eq (ih (pre ++ [x]) (acc ++ [x]) h4 (by simp [hacc])) (by simp))
    simp only [impl_BytesToInts.l0]
    rw [if_pos h1, if_pos (by omega), if_pos h1, if_pos (by omega), h2, h3, wrap_ok (n := x) (by omega)]
theorem implB2I_ev (l : List Int) (hl : l.length ≤ 1048576) (hw : ∀ x ∈ l, 0 ≤ x ∧ x ≤ 255) : Ev (fun k => impl_BytesToInts.f k l) ((l.length : Int) :: l) := implB2I_loop l hl hw l [] [(l.length : Int)] rfl rfl

theorem bytes_byte (s : ByteArray) : ∀ x ∈ bytesOf s, 0 ≤ x ∧ x ≤ 255 := by
  intro x hx
  obtain ⟨b, _, rfl⟩ := List.mem_map.1 hx
  have := b.toNat_lt
  omega
def derivedP (key : Int) (s : ByteArray) : Int := if keyedP key ((s.size : Int) :: bytesOf s) = 0 then 1 else keyedP key ((s.size : Int) :: bytesOf s)

theorem implDerived_ev (key : Int) (s : ByteArray) (hs : s.size ≤ 1048576) : Ev (fun k => impl_DeriveFromString.f k key s) (derivedP key s) := by
  unfold impl_DeriveFromString.f
  have hlen := bytesOf_length s
  refine ev_pos (by omega) ?_
  refine ev_bind (implB2I_ev (bytesOf s) (by omega) (bytes_byte s)) ?_
  rw [hlen]
  refine ev_bind (implKeyed_ev key _ (by simp [hlen]; omega)) ?_
  unfold derivedP
  by_cases h : keyedP key ((s.size : Int) :: bytesOf s) = 0
  · exact ev_pos h (ev_eq (Ev.now 1) (if_pos h).symm)
  · exact ev_neg h (ev_eq (Ev.now _) (if_neg h).symm)

/-! ### The cursor of the draws -/
theorem and255_range (x : Int) : 0 ≤ Go.bits .and .i64 x 255 ∧ Go.bits .and .i64 x 255 ≤ 255 := by
  have h : ∀ a : BitVec 64, (a &&& (255#64)).toNat ≤ 255 := fun a => by rw [BitVec.toNat_and]; exact Nat.and_le_right
  have h2 := h (BitVec.ofInt 64 x)
  have e : Go.bits .and .i64 x 255 = IntKind.i64.wrap (((BitVec.ofInt 64 x &&& (255#64)).toNat : Nat) : Int) := rfl
  rw [e, IntKind.wrap_i64]
  omega
theorem byte_some (b : List Int) (i h : Int) (hb : b.length ≤ 1048576) (hi : 0 ≤ i) : ∃ x i' h', spec_l1Byte.f b i h = some (x, i', h') ∧ 0 ≤ x ∧ x ≤ 255 ∧ 0 ≤ i' := by
  unfold spec_l1Byte.f
  by_cases h1 : i < (b.length : Int)
  · rw [if_pos h1, if_pos hi]
    exact ⟨_, _, _, rfl, (and255_range _).1, (and255_range _).2, by rw [wrap_ok] <;> omega⟩
  · rw [if_neg h1]
    exact ⟨_, _, _, rfl, (and255_range _).1, (and255_range _).2, hi⟩
theorem below_some (b : List Int) (i h n : Int) (hb : b.length ≤ 1048576) (hi : 0 ≤ i) : ∃ x i' h', spec_l1Below.f b i h n = some (x, i', h') ∧ 0 ≤ x ∧ (0 < n → x < n) ∧ (n ≤ 0 → x = 0) ∧ 0 ≤ i' := by
  unfold spec_l1Below.f
  by_cases h1 : n ≤ 0
  · rw [if_pos h1]
    exact ⟨_, _, _, rfl, by omega, fun h => by omega, fun _ => rfl, hi⟩
  · rw [if_neg h1]
    have h0 : ¬ n = 0 := by omega
    by_cases h2 : n ≤ 256
    · rw [if_pos h2]
      obtain ⟨x, i1, k1, e1, x0, x1, j1⟩ := byte_some b i h hb hi
      rw [e1]
      simp only [Option.bind_some, if_neg h0]
      have ht := tmod_pos_bounds x n (by omega) x0
      exact ⟨_, _, _, rfl, ht.1, fun _ => ht.2, fun h => by omega, j1⟩
    · rw [if_neg h2]
      obtain ⟨x, i1, k1, e1, x0, x1, j1⟩ := byte_some b i h hb hi
      obtain ⟨y, i2, k2, e2, y0, y1, j2⟩ := byte_some b i1 k1 hb j1
      obtain ⟨z, i3, k3, e3, z0, z1, j3⟩ := byte_some b i2 k2 hb j2
      rw [e1]
      simp only [Option.bind_some, e2, e3, if_neg h0]
      rw [wrap_ok (n := x * 65536) (by omega), wrap_ok (n := y * 256) (by omega), wrap_ok (n := x * 65536 + y * 256) (by omega), wrap_ok (by omega)]
      have ht := tmod_pos_bounds (x * 65536 + y * 256 + z) n (by omega) (by omega)
      exact ⟨_, _, _, rfl, ht.1, fun _ => ht.2, fun h => by omega, j3⟩

theorem once_some (b : List Int) (i h n : Int) (hb : b.length ≤ 1048576) (hi : 0 ≤ i) : ∃ t i' h', spec_l1Once.f b i h n = some (t, i', h') ∧ 0 ≤ i' := by
  obtain ⟨x, i1, k1, e1, _, _, _, j1⟩ := below_some b i h n hb hi
  unfold spec_l1Once.f
  rw [e1]
  exact ⟨_, _, _, rfl, j1⟩

theorem pick_some (b : List Int) (i h : Int) (l : List Int) (hb : b.length ≤ 1048576) (hi : 0 ≤ i) (hl : 0 < l.length) : ∃ x i' h', spec_l1Int.f b i h l = some (x, i', h') ∧ x ∈ l ∧ 0 ≤ i' := by
  obtain ⟨x, i1, k1, e1, x0, x1, _, j1⟩ := below_some b i h (l.length : Int) hb hi
  have x2 := x1 (by omega)
  unfold spec_l1Int.f
  rw [e1]
  simp only [Option.bind_some, if_pos x0, if_pos x2]
  refine ⟨_, _, _, rfl, ?_, j1⟩
  unfold rd
  rw [List.getD_eq_getElem?_getD, List.getElem?_eq_getElem (by omega)]
  exact List.getElem_mem ..


theorem new_loop (l : List Int) (hl : l.length ≤ 1048576) : ∀ (n : Nat) (i h : Int), 0 ≤ i → (4000 : Int) - i ≤ n → ∃ h', Ev (fun k => spec_l1New.l0 k l h i) (l, 0, h') := by
  intro n
  induction n with
  | zero =>
    intro i h h0 h1
    refine ⟨h, ev_end fun k => ?_⟩
    simp only [spec_l1New.l0]
    by_cases h2 : i < (l.length : Int)
    · rw [if_pos h2, if_neg (by omega)]
    · rw [if_neg h2]
  | succ n ih =>
    intro i h h0 h1
    by_cases h2 : i < (l.length : Int)
    · by_cases h3 : i < 4000
      · obtain ⟨h', e⟩ := ih (i + 1) (Go.bits .and .i64 (wrap64 ((wrap64 ((wrap64 (h * 137)) + (wrap64 (rd l i)))) + 11)) 1073741823) (by omega) (by omega)
        refine ⟨h', Ev.step (fun k => ?_) e⟩
        simp only [spec_l1New.l0]
        rw [if_pos h2, if_pos h3, if_pos h0, wrap_ok (n := i + 1) (by omega)]
      · refine ⟨h, ev_end fun k => ?_⟩
        simp only [spec_l1New.l0]
        rw [if_pos h2, if_neg h3]
    · refine ⟨h, ev_end fun k => ?_⟩
      simp only [spec_l1New.l0]
      rw [if_neg h2]
theorem new_ev (l : List Int) (hl : l.length ≤ 1048576) : ∃ h, Ev (fun k => spec_l1New.f k l) (l, 0, h) := new_loop l hl 4000 0 _ (by omega) (by omega)

theorem word_some (b : List Int) (i h : Int) (hb : b.length ≤ 1048576) (hi : 0 ≤ i) : ∃ v i' h', spec_l3Word.f b i h = some (v, i', h') ∧ -1 ≤ v ∧ v ≤ 2147483648 ∧ 0 ≤ i' := by
  unfold spec_l3Word.f
  obtain ⟨t, i1, k1, e1, j1⟩ := once_some b i h 10 hb hi
  rw [e1]
  simp only [Option.bind_some]
  by_cases ht : t = true
  · rw [if_pos ht]
    obtain ⟨x, i2, k2, e2, hx, j2⟩ := pick_some b i1 k1 [(-1), 2147483647, 2147483648] hb j1 (by simp)
    rw [e2]
    refine ⟨_, _, _, rfl, ?_, ?_, j2⟩ <;> (simp at hx; rcases hx with rfl | rfl | rfl <;> simp)
  · rw [if_neg ht]
    obtain ⟨t2, i2, k2, e2, j2⟩ := once_some b i1 k1 4 hb j1
    rw [e2]
    simp only [Option.bind_some]
    by_cases ht2 : t2 = true
    · rw [if_pos ht2]
      obtain ⟨x, i3, k3, e3, hx, j3⟩ := pick_some b i2 k2 [0, 1, 2147483646] hb j2 (by simp)
      rw [e3]
      refine ⟨_, _, _, rfl, ?_, ?_, j3⟩ <;> (simp at hx; rcases hx with rfl | rfl | rfl <;> simp)
    · rw [if_neg ht2]
      obtain ⟨x, i3, k3, e3, x0, x1, _, j3⟩ := below_some b i2 k2 1000000 hb j2
      obtain ⟨y, i4, k4, e4, y0, y1, _, j4⟩ := below_some b i3 k3 2000 hb j3
      have x2 := x1 (by omega)
      have y2 := y1 (by omega)
      rw [e3]
      simp only [Option.bind_some, e4]
      have hm : 0 ≤ x * y := Int.mul_nonneg x0 y0
      have hm2 : x * y ≤ 1000000 * 2000 := Int.mul_le_mul (by omega) (by omega) y0 (by omega)
      refine ⟨_, _, _, rfl, ?_, ?_, j4⟩ <;> (rw [wrap_ok] <;> omega)

theorem at_some (l : List Int) (i : Int) (hl : l.length ≤ 1048576) (h0 : 0 ≤ i) (h1 : i ≤ 1000) (hw : ∀ x ∈ l, 0 ≤ x ∧ x ≤ 255) : ∃ v, laws_at.f l i = some v ∧ 0 ≤ v ∧ v ≤ 255 := by
  unfold laws_at.f
  have hr := rd_byte hw i
  by_cases h : i < (l.length : Int)
  · rw [if_pos h, if_pos h0, wrap_ok (by omega)]
    exact ⟨_, rfl, hr⟩
  · rw [if_neg h, wrap_ok (n := i * 31) (by omega), wrap_ok (n := (l.length : Int) * 7) (by omega), wrap_ok (by omega)]
    have ht := tmod_pos_bounds (i * 31 + (l.length : Int) * 7) 256 (by omega) (by omega)
    exact ⟨_, rfl, ht.1, by omega⟩

theorem spec_mod (v : Int) : spec_Mod.f v 2147483647 = some (modM v) := by
  unfold spec_Mod.f spec_l1In.f modM
  simp
/-! ### A changed value changes the hash -/
theorem modM_plain (v : Int) : modM v = v % 2147483647 := by
  unfold modM
  have h := tmod_bounds v 2147483647 (by omega)
  have hd := Int.mul_tdiv_add_tmod v 2147483647
  rw [wrap_ok (by omega), Int.tmod_eq_emod_of_nonneg (by omega)]
  omega
theorem hstep_inj (d1 d2 v : Int) (a0 : 0 ≤ d1) (a1 : d1 < 2147483647) (b0 : 0 ≤ d2) (b1 : d2 < 2147483647) (h : hstep d1 v = hstep d2 v) : d1 = d2 := by
  rw [hstep_plain d1 v a0 a1, hstep_plain d2 v b0 b1] at h
  generalize modM v = m at h
  obtain ⟨t, ht⟩ : ∃ t, (d1 - d2) * 1000003 = 2147483647 * t := ⟨(d1 * 1000003 + m + 13) / 2147483647 - (d2 * 1000003 + m + 13) / 2147483647, by omega⟩
  have e : (d1 - d2) * 1000003 * 1523789695 = 2147483647 * (t * 1523789695) := by rw [ht, Int.mul_assoc]
  generalize t * 1523789695 = s at e
  clear h ht
  omega
theorem fold_inj (l : List Int) : ∀ d1 d2 : Int, 0 ≤ d1 → d1 < 2147483647 → 0 ≤ d2 → d2 < 2147483647 → l.foldl hstep d1 = l.foldl hstep d2 → d1 = d2 := by
  induction l with
  | nil => intro d1 d2 _ _ _ _ h; exact h
  | cons x l ih =>
    intro d1 d2 a0 a1 b0 b1 h
    have r1 := hstep_range d1 x a0 a1
    have r2 := hstep_range d2 x b0 b1
    exact hstep_inj d1 d2 x a0 a1 b0 b1 (ih _ _ r1.1 r1.2 r2.1 r2.2 h)
theorem hstep_ne (d v a : Int) (h0 : 0 ≤ d) (h1 : d < 2147483647) (ha : 0 < a) (ha1 : a < 2147483647) : hstep d v ≠ hstep d (modM (v + a)) := by
  rw [hstep_plain d v h0 h1, hstep_plain d _ h0 h1, modM_plain (modM (v + a)), modM_plain (v + a), modM_plain v]
  omega
theorem set_split (l : List Int) (i : Nat) (h : i < l.length) : ∃ pre v suf, l = pre ++ v :: suf ∧ (∀ x, l.set i x = pre ++ x :: suf) ∧ rd l (i : Int) = v := by
  refine ⟨l.take i, l[i], l.drop (i + 1), ?_, fun x => ?_, ?_⟩
  · rw [List.getElem_cons_drop, List.take_append_drop]
  · rw [List.set_eq_take_append_cons_drop, if_pos h]
  · simp [rd, h]
theorem keyed_ne (key : Int) (pre suf : List Int) (v a : Int) (ha : 0 < a) (ha1 : a < 2147483647) : keyedP key (pre ++ modM (v + a) :: suf) ≠ keyedP key (pre ++ v :: suf) := by
  unfold keyedP hashP
  intro h
  have e : ∀ x : Int, (key :: ((pre ++ x :: suf) ++ [key])) = (key :: pre) ++ x :: (suf ++ [key]) := fun x => by simp
  rw [e, e, List.foldl_append, List.foldl_append] at h
  have r := hash_range_from (key :: pre) 11 (by omega) (by omega)
  revert h r
  generalize List.foldl hstep 11 (key :: pre) = d
  intro h r
  simp only [List.foldl_cons] at h
  have r1 := hstep_range d (modM (v + a)) r.1 r.2
  have r2 := hstep_range d v r.1 r.2
  exact hstep_ne d v a r.1 r.2 ha ha1 (fold_inj _ _ _ r1.1 r1.2 r2.1 r2.2 h).symm
/-! ### What is drawn -/
theorem words_loop (b : List Int) (hb : b.length ≤ 1048576) : ∀ (m : Nat) (acc : List Int) (i h : Int), m ≤ 5 → acc.length + m ≤ 5 → 0 ≤ i → (∀ x ∈ acc, -1 ≤ x ∧ x ≤ 2147483648) → ∃ r i' h', Ev (fun k => spec_l3Words.l0 k acc (m : Int) b i h) (r, i', h') ∧ r.length ≤ 5 ∧ (∀ x ∈ r, -1 ≤ x ∧ x ≤ 2147483648) ∧ 0 ≤ i' := by
  intro m
  induction m with
  | zero =>
    intro acc i h _ ha hi hw
    refine ⟨acc, i, h, ev_end fun k => ?_, by omega, hw, hi⟩
    simp only [spec_l3Words.l0]
    rw [if_neg (by omega)]
  | succ m ih =>
    intro acc i h hm ha hi hw
    obtain ⟨v, i1, k1, e1, v0, v1, j1⟩ := word_some b i h hb hi
    obtain ⟨r, i2, k2, e2, h2⟩ := ih (acc ++ [v]) i1 k1 (by omega) (by simp; omega) j1 (by
      intro y hy
      rcases List.mem_append.1 hy with h | h
      · exact hw y h
      · simp at h; omega)
    refine ⟨r, i2, k2, Ev.step (fun k => ?_) e2, h2⟩
    simp only [spec_l3Words.l0]
    rw [if_pos (by omega), e1]
    simp only [Option.bind_some]
    rw [if_pos (by omega), wrap_ok (by omega), show (((m + 1 : Nat) : Int) - 1) = (m : Int) by omega]
theorem words_ev (b : List Int) (i h : Int) (hb : b.length ≤ 1048576) (hi : 0 ≤ i) : ∃ r i' h', Ev (fun k => spec_l3Words.f k b i h) (r, i', h') ∧ r.length ≤ 5 ∧ (∀ x ∈ r, -1 ≤ x ∧ x ≤ 2147483648) ∧ 0 ≤ i' := by
  obtain ⟨n, i1, k1, e1, n0, n1, _, j1⟩ := below_some b i h 5 hb hi
  have n2 := n1 (by omega)
  obtain ⟨r, i2, k2, e2, h2⟩ := words_loop b hb n.toNat [] i1 k1 (by omega) (by simp; omega) j1 (by simp)
  rw [show (n.toNat : Int) = n by omega] at e2
  refine ⟨r, i2, k2, ?_, h2⟩
  unfold spec_l3Words.f
  exact ev_call e1 e2
theorem drawKeyed_ev (l : List Int) (hl : l.length ≤ 1048576) : ∃ key b, Ev (fun k => spec_DrawKeyedHash.f k l) (key, b) ∧ b.length ≤ 5 ∧ ∀ x ∈ b, -1 ≤ x ∧ x ≤ 2147483648 := by
  obtain ⟨h, e⟩ := new_ev l hl
  obtain ⟨v, i1, k1, e1, _, _, j1⟩ := word_some l 0 h hl (by omega)
  obtain ⟨r, i2, k2, e2, hr, hw, j2⟩ := words_ev l i1 k1 hl j1
  refine ⟨v, r, ?_, hr, hw⟩
  unfold spec_DrawKeyedHash.f
  refine ev_bind e ?_
  refine ev_call e1 ?_
  refine ev_bind e2 ?_
  exact Ev.now _
theorem str_some (b : List Int) (i h : Int) (hb : b.length ≤ 1048576) (hi : 0 ≤ i) (L : List ByteArray) (hL : 0 < L.length) : ∃ s i' h', spec_l1Str.f b i h L = some (s, i', h') ∧ s ∈ L ∧ 0 ≤ i' := by
  obtain ⟨n, i1, k1, e1, n0, n1, _, j1⟩ := below_some b i h (L.length : Int) hb hi
  have n2 := n1 (by omega)
  refine ⟨rdOf ByteArray.empty L n, i1, k1, ?_, ?_, j1⟩
  · unfold spec_l1Str.f
    rw [e1]
    simp only [Option.bind_some]
    rw [if_pos n0, if_pos n2]
  · have : n.toNat < L.length := by omega
    simp [rdOf, List.getD_eq_getElem?_getD, List.getElem?_eq_getElem this]
theorem drawDerive_ev (l : List Int) (hl : l.length ≤ 1048576) : ∃ key s, Ev (fun k => spec_DrawDeriveFromString.f k l) (key, s) ∧ s.size ≤ 4 := by
  obtain ⟨h, e⟩ := new_ev l hl
  obtain ⟨v, i1, k1, e1, _, _, j1⟩ := word_some l 0 h hl (by omega)
  obtain ⟨s, i2, k2, e2, hs, j2⟩ := str_some l i1 k1 hl j1 [(⟨#[]⟩ : ByteArray), (⟨#[97]⟩ : ByteArray), (⟨#[98]⟩ : ByteArray), (⟨#[97, 98]⟩ : ByteArray), (⟨#[110, 101, 119, 115]⟩ : ByteArray), (⟨#[120]⟩ : ByteArray)] (by simp)
  refine ⟨v, s, ?_, ?_⟩
  · unfold spec_DrawDeriveFromString.f
    refine ev_bind e ?_
    refine ev_call e1 ?_
    refine ev_call e2 ?_
    exact Ev.now _
  · simp only [List.mem_cons, List.not_mem_nil, or_false] at hs
    rcases hs with rfl | rfl | rfl | rfl | rfl | rfl <;> decide
theorem derived_range (key : Int) (s : ByteArray) : 1 ≤ derivedP key s ∧ derivedP key s ≤ 2147483646 := by
  have h := keyed_range key ((s.size : Int) :: bytesOf s)
  unfold derivedP
  split <;> omega
theorem valid_at (x : Int) (h : 1 ≤ x ∧ x ≤ 2147483646) : impl_IsValidKey.f x = some true := by
  unfold impl_IsValidKey.f impl_InRange.f
  simp [h.1, h.2]
theorem FnKeyedHash : laws_FnKeyedHash.Pure := by
  intro l0 _ _ hwf
  have hwb : ∀ x ∈ l0, 0 ≤ x ∧ x ≤ 255 := fun x hx => bounds_u8 (hwf x hx)
  refine Ev.rounds ?_
  unfold laws_FnKeyedHash.f
  refine ev_call (rfl : laws_big.f l0 = some (decide ((l0.length : Int) > 1048576))) ?_
  by_cases hb : (l0.length : Int) > 1048576
  · refine ev_pos (by simp; omega) ?_
    exact Ev.now true
  refine ev_neg (by simp; omega) ?_
  obtain ⟨key, l, e, hll, hlw⟩ := drawKeyed_ev l0 (by omega)
  obtain ⟨key2, s, e2, hs⟩ := drawDerive_ev l0 (by omega)
  have hr := keyed_range key l
  refine ev_bind e ?_
  refine ev_bind (implKeyed_ev key l (by omega)) ?_
  refine ev_neg (by omega) ?_
  refine ev_neg (by omega) ?_
  refine ev_call rfl ?_
  refine ev_pos (by simp; omega) ?_
  refine ev_call rfl ?_
  refine ev_pos (by simp; omega) ?_
  refine ev_bind (a := keyedP key l) (ev_eq (implHash_ev _ (by simp; omega)) (by simp [keyedP])) ?_
  rw [show ((keyedP key l) != (keyedP key l)) = false by simp]
  refine Ev.step (fun k => laws_FnKeyedHash.j0.eq_2 _ _ _ _ _ k) ?_
  refine ev_neg (by simp) ?_
  have last : Ev (fun k => (spec_DrawDeriveFromString.f k l0).bind fun bt => ((impl_DeriveFromString.f k bt.1 bt.2).bind fun t246 => ((impl_IsValidKey.f t246).bind fun t247 => (some t247)))) true := by
    refine ev_bind e2 ?_
    refine ev_bind (implDerived_ev key2 s (by omega)) ?_
    refine ev_call (valid_at _ (derived_range key2 s)) ?_
    exact Ev.now true
  dsimp only
  by_cases hp : (l.length : Int) > 0
  · refine ev_pos hp ?_
    obtain ⟨t, et, t0, t1⟩ := at_some l0 0 (by omega) (by omega) (by omega) hwb
    obtain ⟨u, eu, u0, u1⟩ := at_some l0 1 (by omega) (by omega) (by omega) hwb
    have hm := tmod_nonneg_bounds t (l.length : Int) hp t0
    obtain ⟨i, hi⟩ : ∃ i : Nat, Int.tmod t (l.length : Int) = (i : Int) := ⟨(Int.tmod t (l.length : Int)).toNat, by omega⟩
    obtain ⟨pre, v, suf, hl, hset, hrd⟩ := set_split l i (by omega)
    have hv := hlw v (by rw [hl]; simp)
    refine ev_call rfl ?_
    refine ev_pos (by simp; omega) ?_
    refine ev_call rfl ?_
    refine ev_call et ?_
    rw [List.nil_append]
    refine ev_neg (by omega) ?_
    refine ev_pos (by omega) ?_
    refine ev_pos (by omega) ?_
    refine ev_call eu ?_
    rw [hi, hrd]
    rw [wrap_ok (n := v + 1) (by omega), wrap_ok (n := v + 1 + u) (by omega)]
    refine ev_call (spec_mod _) ?_
    rw [show v + 1 + u = v + (1 + u) by omega, Int.toNat_natCast, hset]
    refine ev_bind (implKeyed_ev key _ (by rw [← hset (modM (v + (1 + u)))]; simp; omega)) ?_
    refine ev_neg ?_ last
    rw [hl]
    exact keyed_ne key pre suf v (1 + u) (by omega) (by omega)
  · exact ev_neg hp last

end Go.Proofs.Ytbjecehiappdeac.Pure

/-- The words' fact, under the name by which the row asks for it. -/
theorem Go.Proofs.Ytbjecehiappdeac.PrintWords.sized_ints {H : Type} {enc : Go.TypeId × Go.Value → H} {P : Go.Program} {W : Go.World} {base : Nat} {spare : Nat → Bool} {held : Bool} {t e : Go.TypeId} {k : Go.IntKind} {a : Option Go.Addr} {len cap : Nat} {d : Go.DataW H} {ps : List Go.MemPlace} {ts : List Go.TypeId} {ds : List (Go.DataW H)} {j : Nat}
    (hsz : (Go.DataW.weightsEach P ts ds).all (· ≤ Go.reachBytes) = true) (ht : ts[j]? = some t) (hd : ds[j]? = some d) (hu : P.underlying t = some (.slice e)) (he : P.underlying e = some (.int k)) (hc : P.cellsOf e = 1) {B : Nat} (hB : P.bytesOf e = B)
    (h : Go.DataW.Trod enc P W base spare held t (.slice a len cap) d ps) : len * B ≤ 140737488351232 := Go.Proofs.YtbjecehiappdeacW.PrintWords.sized_ints hsz ht hd hu he hc hB h
