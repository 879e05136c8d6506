/- The law FnShuffles returns true at every list of bytes: shuffling, cutting and riffling lose no card. No condition. -/
import Derived.Test.YtbjecehiappdeadQFnShufflesx5
import Derived.Test.YtbjecehiappdeadWSized
namespace Go.Proofs.Ytbjecehiappdead.Pure
open Go.RowKit Go.Proofs.Ytbjecehiappdead.QFnShuffles Go.Proofs.YtbjecehiappdeadW.PrintWords Go.Proofs.YtbjecehiappdeadW.PrintLast Go.Proofs.YtbjecehiappdeadW.PrintMore
set_option linter.unusedVariables false
set_option linter.unusedSimpArgs false

/-! ### Words on rounds and on lists -/
theorem ev_bind {α β : Type} {g : Nat → Option α} {f : Nat → α → Option β} {a : α} {r : β} (h : Ev g a) (k : Ev (fun n => f n a) r) : Ev (fun n => (g n).bind (f n)) r := Ev.bind h k
theorem ev_call {α β : Type} {o : Option α} {f : Nat → α → Option β} {a : α} {r : β} (h : o = some a) (k : Ev (fun n => f n a) r) : Ev (fun n => o.bind (f n)) r := by
  subst h; exact k
theorem ev_pos {α : Type} {c : Prop} [Decidable c] {f g : Nat → Option α} {r : α} (h : c) (e : Ev f r) : Ev (fun n => if c then f n else g n) r := by
  obtain ⟨K, hK⟩ := e
  exact ⟨K, fun n hn => by show (if c then f n else g n) = some r; rw [if_pos h]; exact hK n hn⟩
theorem ev_neg {α : Type} {c : Prop} [Decidable c] {f g : Nat → Option α} {r : α} (h : ¬ c) (e : Ev g r) : Ev (fun n => if c then f n else g n) r := by
  obtain ⟨K, hK⟩ := e
  exact ⟨K, fun n hn => by show (if c then f n else g n) = some r; rw [if_neg h]; exact hK n hn⟩
theorem ev_end {α : Type} {g : Nat → Option α} {r : α} (h : ∀ k, g (k + 1) = some r) : Ev g r := Ev.step (f := fun _ => some r) h (Ev.now r)
theorem ev_eq {α : Type} {g : Nat → Option α} {r r' : α} (h : Ev g r) (e : r = r') : Ev g r' := e ▸ h
theorem ev_some {α : Type} {g : Nat → Option α} {r : α} (h : ∀ k, g k = some r) : Ev g r := ⟨0, fun k _ => h k⟩
theorem wrap_ok {n : Int} (h : -9223372036854775808 ≤ n ∧ n ≤ 9223372036854775807) : wrap64 n = n := by unfold wrap64; omega
theorem rd_mid (pre : List Int) (x : Int) (suf : List Int) : rd (pre ++ x :: suf) (pre.length : Int) = x := by simp [rd]
theorem snoc_len (pre : List Int) (x : Int) : (((pre ++ [x]).length : Nat) : Int) = (pre.length : Int) + 1 := by simp
theorem mid_facts {l pre suf : List Int} {x : Int} (h : l = pre ++ x :: suf) (hl : l.length ≤ 35184372088832) :
    (pre.length : Int) < (l.length : Int) ∧ rd l (pre.length : Int) = x ∧ wrap64 ((pre.length : Int) + 1) = (((pre ++ [x]).length : Nat) : Int) ∧ l = (pre ++ [x]) ++ suf := by
  have hlen : l.length = pre.length + (suf.length + 1) := by rw [h]; simp
  refine ⟨by omega, by rw [h]; exact rd_mid pre x suf, ?_, by rw [h]; simp⟩
  rw [snoc_len]
  exact wrap_ok (by omega)
theorem end_facts {l pre : List Int} (h : l = pre ++ []) : l = pre ∧ ¬ (pre.length : Int) < (l.length : Int) := by
  rw [List.append_nil] at h
  subst h
  exact ⟨rfl, by omega⟩
/-- The marks m, m + 1, .. -/
def marks : Int → Nat → List Int
  | _, 0 => []
  | m, n + 1 => m :: marks (m + 1) n
theorem marks_length (m : Int) (n : Nat) : (marks m n).length = n := by
  induction n generalizing m with
  | zero => rfl
  | succ n ih => simp [marks, ih]

theorem tmod_pos_bounds (v m : Int) (hm : 0 < m) (hv : 0 ≤ v) : 0 ≤ Int.tmod v m ∧ Int.tmod v m < m := by
  rw [Int.tmod_eq_emod_of_nonneg hv]
  exact ⟨Int.emod_nonneg v (by omega), Int.emod_lt_of_pos v hm⟩

theorem rd_byte {b : List Int} (hw : ∀ x ∈ b, 0 ≤ x ∧ x ≤ 255) (i : Int) : 0 ≤ rd b i ∧ rd b i ≤ 255 := by
  unfold rd
  rw [List.getD_eq_getElem?_getD]
  cases h : b[i.toNat]? with
  | none => simp
  | some x => exact hw x (List.mem_of_getElem? h)

/-! ### Mod at Modulus -/
def modM (v : Int) : Int := Int.tmod (wrap64 ((Int.tmod v 2147483647) + 2147483647)) 2147483647
def hstep (d v : Int) : Int := Int.tmod (wrap64 ((wrap64 ((wrap64 (d * 1000003)) + modM v)) + 13)) 2147483647
def hashP (l : List Int) : Int := l.foldl hstep 11
theorem tmod_bounds (v m : Int) (hm : 0 < m) : -m < Int.tmod v m ∧ Int.tmod v m < m := by
  have h := Int.natAbs_tmod v m
  have h2 : v.natAbs % m.natAbs < m.natAbs := Nat.mod_lt _ (by omega)
  omega
theorem tmod_nonneg_bounds (v m : Int) (hm : 0 < m) (hv : 0 ≤ v) : 0 ≤ Int.tmod v m ∧ Int.tmod v m < m := by
  rw [Int.tmod_eq_emod_of_nonneg hv]
  exact ⟨Int.emod_nonneg v (by omega), Int.emod_lt_of_pos v hm⟩
theorem modM_range (v : Int) : 0 ≤ modM v ∧ modM v < 2147483647 := by
  unfold modM
  have h := tmod_bounds v 2147483647 (by omega)
  rw [wrap_ok (by omega)]
  exact tmod_nonneg_bounds _ _ (by omega) (by omega)
theorem hstep_plain (d v : Int) (h0 : 0 ≤ d) (h1 : d < 2147483647) : hstep d v = (d * 1000003 + modM v + 13) % 2147483647 := by
  have h := modM_range v
  unfold hstep
  rw [wrap_ok (n := d * 1000003) (by omega), wrap_ok (n := d * 1000003 + modM v) (by omega), wrap_ok (by omega), Int.tmod_eq_emod_of_nonneg (by omega)]
theorem hstep_range (d v : Int) (h0 : 0 ≤ d) (h1 : d < 2147483647) : 0 ≤ hstep d v ∧ hstep d v < 2147483647 := by
  rw [hstep_plain d v h0 h1]
  omega
theorem hash_range_from (l : List Int) : ∀ d, 0 ≤ d → d < 2147483647 → 0 ≤ l.foldl hstep d ∧ l.foldl hstep d < 2147483647 := by
  induction l with
  | nil => intro d h0 h1; exact ⟨h0, h1⟩
  | cons x l ih =>
    intro d h0 h1
    have h := hstep_range d x h0 h1
    exact ih _ h.1 h.2
theorem hash_range (l : List Int) : 0 ≤ hashP l ∧ hashP l < 2147483647 := hash_range_from l 11 (by omega) (by omega)

theorem impl_modpos (v m : Int) (h0 : 0 ≤ v) (h1 : v ≤ 2147483647) (m0 : 1 ≤ m) (m1 : m ≤ 1000000000000) : impl_Mod.f v m = some (v % m) := by
  unfold impl_Mod.f impl_InRange.f
  have hz : ¬ m = 0 := by omega
  have hb := Int.emod_lt_of_pos v (show 0 < m by omega)
  have hb0 := Int.emod_nonneg v hz
  simp only [ge_iff_le, m0, m1, decide_true, if_true, Option.bind_some, hz, if_false]
  rw [Int.tmod_eq_emod_of_nonneg h0, wrap_ok (by omega), Int.tmod_eq_emod_of_nonneg (by omega), Int.add_emod_right, Int.emod_emod]

/-! ### The cursor of the draws -/
theorem and255_range (x : Int) : 0 ≤ Go.bits .and .i64 x 255 ∧ Go.bits .and .i64 x 255 ≤ 255 := by
  have h : ∀ a : BitVec 64, (a &&& (255#64)).toNat ≤ 255 := fun a => by rw [BitVec.toNat_and]; exact Nat.and_le_right
  have h2 := h (BitVec.ofInt 64 x)
  have e : Go.bits .and .i64 x 255 = IntKind.i64.wrap (((BitVec.ofInt 64 x &&& (255#64)).toNat : Nat) : Int) := rfl
  rw [e, IntKind.wrap_i64]
  omega
theorem byte_some (b : List Int) (i h : Int) (hb : b.length ≤ 1048576) (hi : 0 ≤ i) : ∃ x i' h', spec_l1Byte.f b i h = some (x, i', h') ∧ 0 ≤ x ∧ x ≤ 255 ∧ 0 ≤ i' := by
  unfold spec_l1Byte.f
  by_cases h1 : i < (b.length : Int)
  · rw [if_pos h1, if_pos hi]
    exact ⟨_, _, _, rfl, (and255_range _).1, (and255_range _).2, by rw [wrap_ok] <;> omega⟩
  · rw [if_neg h1]
    exact ⟨_, _, _, rfl, (and255_range _).1, (and255_range _).2, hi⟩
theorem below_some (b : List Int) (i h n : Int) (hb : b.length ≤ 1048576) (hi : 0 ≤ i) : ∃ x i' h', spec_l1Below.f b i h n = some (x, i', h') ∧ 0 ≤ x ∧ (0 < n → x < n) ∧ (n ≤ 0 → x = 0) ∧ 0 ≤ i' := by
  unfold spec_l1Below.f
  by_cases h1 : n ≤ 0
  · rw [if_pos h1]
    exact ⟨_, _, _, rfl, by omega, fun h => by omega, fun _ => rfl, hi⟩
  · rw [if_neg h1]
    have h0 : ¬ n = 0 := by omega
    by_cases h2 : n ≤ 256
    · rw [if_pos h2]
      obtain ⟨x, i1, k1, e1, x0, x1, j1⟩ := byte_some b i h hb hi
      rw [e1]
      simp only [Option.bind_some, if_neg h0]
      have ht := tmod_pos_bounds x n (by omega) x0
      exact ⟨_, _, _, rfl, ht.1, fun _ => ht.2, fun h => by omega, j1⟩
    · rw [if_neg h2]
      obtain ⟨x, i1, k1, e1, x0, x1, j1⟩ := byte_some b i h hb hi
      obtain ⟨y, i2, k2, e2, y0, y1, j2⟩ := byte_some b i1 k1 hb j1
      obtain ⟨z, i3, k3, e3, z0, z1, j3⟩ := byte_some b i2 k2 hb j2
      rw [e1]
      simp only [Option.bind_some, e2, e3, if_neg h0]
      rw [wrap_ok (n := x * 65536) (by omega), wrap_ok (n := y * 256) (by omega), wrap_ok (n := x * 65536 + y * 256) (by omega), wrap_ok (by omega)]
      have ht := tmod_pos_bounds (x * 65536 + y * 256 + z) n (by omega) (by omega)
      exact ⟨_, _, _, rfl, ht.1, fun _ => ht.2, fun h => by omega, j3⟩

theorem once_some (b : List Int) (i h n : Int) (hb : b.length ≤ 1048576) (hi : 0 ≤ i) : ∃ t i' h', spec_l1Once.f b i h n = some (t, i', h') ∧ 0 ≤ i' := by
  obtain ⟨x, i1, k1, e1, _, _, _, j1⟩ := below_some b i h n hb hi
  unfold spec_l1Once.f
  rw [e1]
  exact ⟨_, _, _, rfl, j1⟩

theorem pick_some (b : List Int) (i h : Int) (l : List Int) (hb : b.length ≤ 1048576) (hi : 0 ≤ i) (hl : 0 < l.length) : ∃ x i' h', spec_l1Int.f b i h l = some (x, i', h') ∧ x ∈ l ∧ 0 ≤ i' := by
  obtain ⟨x, i1, k1, e1, x0, x1, _, j1⟩ := below_some b i h (l.length : Int) hb hi
  have x2 := x1 (by omega)
  unfold spec_l1Int.f
  rw [e1]
  simp only [Option.bind_some, if_pos x0, if_pos x2]
  refine ⟨_, _, _, rfl, ?_, j1⟩
  unfold rd
  rw [List.getD_eq_getElem?_getD, List.getElem?_eq_getElem (by omega)]
  exact List.getElem_mem ..


theorem new_loop (l : List Int) (hl : l.length ≤ 1048576) : ∀ (n : Nat) (i h : Int), 0 ≤ i → (4000 : Int) - i ≤ n → ∃ h', Ev (fun k => spec_l1New.l0 k l h i) (l, 0, h') := by
  intro n
  induction n with
  | zero =>
    intro i h h0 h1
    refine ⟨h, ev_end fun k => ?_⟩
    simp only [spec_l1New.l0]
    by_cases h2 : i < (l.length : Int)
    · rw [if_pos h2, if_neg (by omega)]
    · rw [if_neg h2]
  | succ n ih =>
    intro i h h0 h1
    by_cases h2 : i < (l.length : Int)
    · by_cases h3 : i < 4000
      · obtain ⟨h', e⟩ := ih (i + 1) (Go.bits .and .i64 (wrap64 ((wrap64 ((wrap64 (h * 137)) + (wrap64 (rd l i)))) + 11)) 1073741823) (by omega) (by omega)
        refine ⟨h', Ev.step (fun k => ?_) e⟩
        simp only [spec_l1New.l0]
        rw [if_pos h2, if_pos h3, if_pos h0, wrap_ok (n := i + 1) (by omega)]
      · refine ⟨h, ev_end fun k => ?_⟩
        simp only [spec_l1New.l0]
        rw [if_pos h2, if_neg h3]
    · refine ⟨h, ev_end fun k => ?_⟩
      simp only [spec_l1New.l0]
      rw [if_neg h2]
theorem new_ev (l : List Int) (hl : l.length ≤ 1048576) : ∃ h, Ev (fun k => spec_l1New.f k l) (l, 0, h) := new_loop l hl 4000 0 _ (by omega) (by omega)

/-! ### HasCard and PlaceOf -/
theorem specHas_loop (l : List Int) (c : Int) (hl : l.length ≤ 35184372088832) : ∀ (suf pre : List Int), l = pre ++ suf → Ev (fun k => spec_HasCard.l0 k l c (pre.length : Int)) (decide (c ∈ suf)) := by
  intro suf
  induction suf with
  | nil =>
    intro pre h
    obtain ⟨_, h2⟩ := end_facts h
    refine ev_end fun k => ?_
    simp only [spec_HasCard.l0]
    rw [if_neg h2]
    simp
  | cons x suf ih =>
    intro pre h
    obtain ⟨h1, h2, h3, h4⟩ := mid_facts h hl
    by_cases hx : x = c
    · refine ev_end fun k => ?_
      simp only [spec_HasCard.l0]
      rw [if_pos h1, if_pos (by omega), h2, if_pos hx]
      simp [hx]
    · have hx' : ¬ c = x := fun e => hx e.symm
      refine Ev.step (fun k => ?_) (ev_eq (ih (pre ++ [x]) h4) (by simp [hx']))
      simp only [spec_HasCard.l0]
      rw [if_pos h1, if_pos (by omega), h2, if_neg hx, h3]
theorem specHas_ev (l : List Int) (c : Int) (hl : l.length ≤ 35184372088832) : Ev (fun k => spec_HasCard.f k l c) (decide (c ∈ l)) := specHas_loop l c hl l [] rfl

/-! ### A list of cards that is drawn -/
theorem nine_apart : ∀ x : Fin 52, ((List.range 9).map (fun i : Nat => ((x.val : Int) + 7 * (i : Int)) % 52)).Nodup := by decide +kernel
theorem one_free (out : List Int) (h : out.length ≤ 8) (x : Int) (h0 : 0 ≤ x) (h1 : x < 52) : ∃ i : Nat, i < 9 ∧ (x + 7 * (i : Int)) % 52 ∉ out := by
  apply Classical.byContradiction
  intro hn
  have hx := nine_apart ⟨x.toNat, by omega⟩
  simp only [Int.toNat_of_nonneg h0] at hx
  have := List.Nodup.length_le_of_subset hx (l₂ := out) (by
    intro y hy
    obtain ⟨i, hi, rfl⟩ := List.mem_map.1 hy
    have hi2 := List.mem_range.1 hi
    apply Classical.byContradiction
    intro hc
    exact hn ⟨i, hi2, hc⟩)
  simp at this
  omega
theorem some_in (b : List Int) (i h n : Int) (out : List Int) (x6 : Int) (ho : out.length ≤ 8) (P : List Int → Int → Prop)
    (hc : ∀ x : Int, 0 ≤ x → x < 52 → x ∉ out → ∃ r i' h', Ev (fun k => spec_l5Some.l0 k n (out ++ [x]) (wrap64 (x6 + 1)) b i h) (r, i', h') ∧ P r i') :
    ∀ (m : Nat) (x : Int), 0 ≤ x → x < 52 → (∃ i : Nat, i < m ∧ (x + 7 * (i : Int)) % 52 ∉ out) → ∃ r i' h', Ev (fun k => spec_l5Some.l1 k n out x6 x b i h) (r, i', h') ∧ P r i' := by
  intro m
  induction m with
  | zero =>
    intro x _ _ hi
    obtain ⟨i, hi, _⟩ := hi
    omega
  | succ m ih =>
    intro x h0 h1 hi
    have hf : ∀ k, spec_l5Some.l1 (k + 1) n out x6 x b i h = (spec_HasCard.f k out x).bind fun t => if t = true then spec_l5Some.l1 k n out x6 (Int.tmod (wrap64 (x + 7)) 52) b i h else if out.length < 17592186044416 then spec_l5Some.l0 k n (out ++ [x]) (wrap64 (x6 + 1)) b i h else none := fun k => by simp only [spec_l5Some.l1]
    by_cases hm : x ∈ out
    · have hw : Int.tmod (wrap64 (x + 7)) 52 = (x + 7) % 52 := by rw [wrap_ok (by omega), Int.tmod_eq_emod_of_nonneg (by omega)]
      obtain ⟨r, i', h', e, hp⟩ := ih ((x + 7) % 52) (by omega) (by omega) (by
        obtain ⟨j, hj, hj2⟩ := hi
        cases j with
        | zero =>
          rw [show (x + 7 * ((0 : Nat) : Int)) % 52 = x by omega] at hj2
          exact absurd hm hj2
        | succ j =>
          refine ⟨j, by omega, ?_⟩
          rwa [show ((x + 7) % 52 + 7 * (j : Int)) % 52 = (x + 7 * ((j + 1 : Nat) : Int)) % 52 by omega])
      refine ⟨r, i', h', Ev.step hf ?_, hp⟩
      refine ev_bind (specHas_ev out x (by omega)) ?_
      refine ev_pos (by simp [hm]) ?_
      rw [hw]
      exact e
    · obtain ⟨r, i', h', e, hp⟩ := hc x h0 h1 hm
      refine ⟨r, i', h', Ev.step hf ?_, hp⟩
      refine ev_bind (specHas_ev out x (by omega)) ?_
      refine ev_neg (by simp [hm]) ?_
      exact ev_pos (by omega) e
theorem some_loop (b : List Int) (hb : b.length ≤ 1048576) (n : Nat) (hn : n ≤ 8) : ∀ (m : Nat) (out : List Int) (i h : Int), out.length + m = n → 0 ≤ i → ∃ r i' h', Ev (fun k => spec_l5Some.l0 k (n : Int) out (out.length : Int) b i h) (r, i', h') ∧ (r.length ≤ 8 ∧ 0 ≤ i') := by
  intro m
  induction m with
  | zero =>
    intro out i h ho hi
    refine ⟨out, i, h, ev_end fun k => ?_, by omega, hi⟩
    simp only [spec_l5Some.l0]
    rw [if_neg (by omega)]
  | succ m ih =>
    intro out i h ho hi
    obtain ⟨x, i1, k1, e1, x0, x1, _, j1⟩ := below_some b i h 52 hb hi
    have x2 := x1 (by omega)
    obtain ⟨r, i2, k2, e2, hp⟩ := some_in b i1 k1 (n : Int) out (out.length : Int) (by omega) (fun r i' => r.length ≤ 8 ∧ 0 ≤ i') (by
      intro y _ _ _
      have hw : wrap64 ((out.length : Int) + 1) = (((out ++ [y]).length : Nat) : Int) := by
        rw [wrap_ok (by omega)]
        simp
      rw [hw]
      exact ih (out ++ [y]) i1 k1 (by simp; omega) j1) 9 x x0 x2 (one_free out (by omega) x x0 x2)
    refine ⟨r, i2, k2, Ev.step (fun k => ?_) e2, hp⟩
    simp only [spec_l5Some.l0]
    rw [if_pos (by omega), e1]
    rfl
theorem some_ev (b : List Int) (i h n : Int) (hb : b.length ≤ 1048576) (hi : 0 ≤ i) (h0 : 0 ≤ n) (h1 : n ≤ 8) : ∃ r i' h', Ev (fun k => spec_l5Some.f k b i h n) (r, i', h') ∧ (r.length ≤ 8 ∧ 0 ≤ i') := by
  obtain ⟨r, i', h', e, hp⟩ := some_loop b hb n.toNat (by omega) n.toNat [] i h (by simp) hi
  rw [Int.toNat_of_nonneg h0] at e
  exact ⟨r, i', h', e, hp⟩
theorem any_ev (b : List Int) (i h : Int) (hb : b.length ≤ 1048576) (hi : 0 ≤ i) : ∃ r i' h', Ev (fun k => spec_l5Any.f k b i h) (r, i', h') ∧ r.length ≤ 8 ∧ 0 ≤ i' := by
  obtain ⟨n, i1, k1, e1, n0, n1, _, j1⟩ := below_some b i h 9 hb hi
  have n2 := n1 (by omega)
  obtain ⟨r, i2, k2, e2, hr, j2⟩ := some_ev b i1 k1 n hb j1 n0 (by omega)
  unfold spec_l5Any.f
  by_cases hp : (r.length : Int) > 0
  · obtain ⟨t, i3, k3, e3, j3⟩ := once_some b i2 k2 10 hb j2
    cases t with
    | true =>
      obtain ⟨v, i4, k4, e4, _, j4⟩ := pick_some b i3 k3 [rd r (wrap64 ((r.length : Int) - 1)), 52, (-1)] hb j3 (by simp)
      refine ⟨r.set (0 : Int).toNat v, i4, k4, ?_, by rw [List.length_set]; exact hr, j4⟩
      refine ev_call e1 ?_
      refine ev_bind e2 ?_
      refine ev_pos hp ?_
      refine ev_call e3 ?_
      refine ev_pos rfl ?_
      have hw : wrap64 ((r.length : Int) - 1) = (r.length : Int) - 1 := wrap_ok (by omega)
      refine ev_pos (by rw [hw]; first | omega | (dsimp only; omega)) ?_
      refine ev_pos (by rw [hw]; first | omega | (dsimp only; omega)) ?_
      refine ev_call e4 ?_
      refine ev_pos (by first | omega | (dsimp only; omega)) ?_
      exact Ev.now _
    | false =>
      refine ⟨r, i3, k3, ?_, hr, j3⟩
      refine ev_call e1 ?_
      refine ev_bind e2 ?_
      refine ev_pos hp ?_
      refine ev_call e3 ?_
      refine ev_neg (by simp) ?_
      exact Ev.now _
  · refine ⟨r, i2, k2, ?_, hr, j2⟩
    refine ev_call e1 ?_
    refine ev_bind e2 ?_
    refine ev_neg hp ?_
    exact Ev.now _

theorem card4_some (b : List Int) (i h : Int) (hb : b.length ≤ 1048576) (hi : 0 ≤ i) : ∃ v i' h', spec_l4Card.f b i h = some (v, i', h') ∧ 0 ≤ i' := by
  obtain ⟨x, i1, k1, e1, _, _, _, j1⟩ := below_some b i h 52 hb hi
  obtain ⟨y, i2, k2, e2, _, _, _, j2⟩ := below_some b i1 k1 52 hb j1
  obtain ⟨z, i3, k3, e3, _, _, _, j3⟩ := below_some b i2 k2 52 hb j2
  obtain ⟨v, i4, k4, e4, _, j4⟩ := pick_some b i3 k3 [x, y, z, 0, 51, 52, (-1), 9223372036854775807] hb j3 (by simp)
  refine ⟨v, i4, k4, ?_, j4⟩
  unfold spec_l4Card.f
  rw [e1]
  simp only [Option.bind_some]
  rw [e2]
  simp only [Option.bind_some]
  rw [e3]
  simp only [Option.bind_some]
  rw [e4]
  rfl
theorem drawHas_ev (l : List Int) (hl : l.length ≤ 1048576) : ∃ r c, Ev (fun k => spec_DrawHasCard.f k l) (r, c) ∧ r.length ≤ 8 := by
  obtain ⟨h, e⟩ := new_ev l hl
  obtain ⟨r, i1, k1, e1, hr, j1⟩ := any_ev l 0 h hl (by omega)
  have tail : ∀ (t : Bool) (i2 k2 : Int), 0 ≤ i2 → (t = true → 0 < r.length) → ∃ c, Ev (fun k => spec_DrawHasCard.j0 k r t l i2 k2) (r, c) := by
    intro t i2 k2 j2 ht
    cases t with
    | true =>
      obtain ⟨n, i3, k3, e3, n0, n1, _, _⟩ := below_some l i2 k2 (r.length : Int) hl j2
      have n2 := n1 (by have := ht rfl; omega)
      refine ⟨rd r n, Ev.step (fun k => spec_DrawHasCard.j0.eq_2 _ _ _ _ _ k) ?_⟩
      refine ev_pos rfl ?_
      refine ev_call e3 ?_
      refine ev_pos n0 ?_
      refine ev_pos n2 ?_
      exact Ev.now _
    | false =>
      obtain ⟨v, i3, k3, e3, _⟩ := card4_some l i2 k2 hl j2
      refine ⟨v, Ev.step (fun k => spec_DrawHasCard.j0.eq_2 _ _ _ _ _ k) ?_⟩
      refine ev_neg (by simp) ?_
      refine ev_call e3 ?_
      exact Ev.now _
  unfold spec_DrawHasCard.f
  by_cases hp : (r.length : Int) > 0
  · obtain ⟨t, i2, k2, e2, j2⟩ := once_some l i1 k1 2 hl j1
    obtain ⟨c, e3⟩ := tail t i2 k2 j2 (fun _ => by omega)
    refine ⟨r, c, ?_, hr⟩
    refine ev_bind e ?_
    refine ev_bind e1 ?_
    refine ev_pos hp ?_
    refine ev_call e2 ?_
    exact e3
  · obtain ⟨c, e3⟩ := tail false i1 k1 j1 (by simp)
    refine ⟨r, c, ?_, hr⟩
    refine ev_bind e ?_
    refine ev_bind e1 ?_
    refine ev_neg hp ?_
    exact e3

theorem impl_mod (v : Int) : impl_Mod.f v 2147483647 = some (modM v) := by
  unfold impl_Mod.f impl_InRange.f modM
  simp
theorem implHash_loop (l : List Int) (hl : l.length ≤ 17592186044416) : ∀ (suf pre : List Int) (d : Int), l = pre ++ suf → Ev (fun k => impl_Hash.l0 k d l (l.length : Int) (pre.length : Int)) (suf.foldl hstep d) := by
  intro suf
  induction suf with
  | nil =>
    intro pre d h
    obtain ⟨_, h2⟩ := end_facts h
    refine ev_end fun k => ?_
    simp only [impl_Hash.l0]
    rw [if_neg h2]
    rfl
  | cons x suf ih =>
    intro pre d h
    obtain ⟨h1, h2, h3, h4⟩ := mid_facts h (by omega)
    refine Ev.step (fun k => ?_) (ev_eq (ih (pre ++ [x]) (hstep d x) h4) rfl)
    simp only [impl_Hash.l0]
    rw [if_pos h1, if_pos (by omega), if_pos h1, h2, h3, impl_mod]
    rfl
theorem implHash_ev (l : List Int) (hl : l.length ≤ 17592186044416) : Ev (fun k => impl_Hash.f k l) (hashP l) := implHash_loop l hl l [] 11 rfl

theorem copy_of (l : List Int) (hl : l.length < 17592186044416) : impl_copyOf.f l = some l := by
  unfold impl_copyOf.f
  simp [hl]

/-! ### Shuffled -/
def shufF (seed : Int) : Nat → List Int → Int → List Int
  | 0, l, _ => l
  | n + 1, l, i => shufF seed n ((l.set i.toNat (rd l (hashP [seed, i] % (i + 1)))).set (hashP [seed, i] % (i + 1)).toNat (rd l i)) (i - 1)
theorem shufF_len (seed : Int) (n : Nat) : ∀ l i, (shufF seed n l i).length = l.length := by
  induction n with
  | zero => intro l i; rfl
  | succ n ih => intro l i; simp [shufF, ih]
def shufP (l : List Int) (seed : Int) : List Int := shufF seed (l.length - 1) l ((l.length : Int) - 1)
theorem shufP_len (l : List Int) (seed : Int) : (shufP l seed).length = l.length := shufF_len ..

theorem implShuf_loop (seed : Int) : ∀ (n : Nat) (l : List Int) (i : Int), l.length ≤ 17592186044000 → i < (l.length : Int) → i = n ∨ (n = 0 ∧ i = -1) → (n : Int) ≤ 1000000000 → Ev (fun k => impl_Shuffled.l0 k seed l i) (shufF seed n l i) := by
  intro n
  induction n with
  | zero =>
    intro l i hl hi hn hb
    refine ev_end fun k => ?_
    simp only [impl_Shuffled.l0]
    rw [if_neg (by omega)]
    rfl
  | succ n ih =>
    intro l i hl hi hn hb
    have hh := hash_range [seed, i]
    have hj0 := Int.emod_nonneg (hashP [seed, i]) (show i + 1 ≠ 0 by omega)
    have hj1 := Int.emod_lt_of_pos (hashP [seed, i]) (show 0 < i + 1 by omega)
    refine Ev.step (f := fun k => (impl_Hash.f k [seed, i]).bind fun t => (impl_Mod.f t (i + 1)).bind fun u => if 0 ≤ u then (if u < (l.length : Int) then impl_Shuffled.l0 k seed ((l.set i.toNat (rd l u)).set u.toNat (rd l i)) (i - 1) else none) else none) (fun k => ?_) ?_
    · simp only [impl_Shuffled.l0]
      rw [if_pos (by omega), wrap_ok (n := i + 1) (by omega), wrap_ok (n := i - 1) (by omega)]
      simp only [if_pos (show 0 ≤ i by omega), if_pos hi]
    · refine ev_bind (implHash_ev _ (by simp)) ?_
      refine ev_call (impl_modpos _ _ hh.1 (by omega) (by omega) (by omega)) ?_
      refine ev_pos hj0 ?_
      refine ev_pos (by omega) ?_
      exact ih _ (i - 1) (by simpa using hl) (by simp; omega) (by omega) (by omega)
theorem implShuf_ev (l : List Int) (seed : Int) (hl : l.length ≤ 1048576) : Ev (fun k => impl_Shuffled.f k l seed) (shufP l seed) := by
  unfold impl_Shuffled.f
  refine ev_call (copy_of l (by omega)) ?_
  rw [wrap_ok (by omega)]
  exact implShuf_loop seed _ l _ (by omega) (by omega) (by omega) (by omega)

def cutP (l : List Int) (a : Int) : List Int := if 0 ≤ a ∧ a ≤ (l.length : Int) then l.drop a.toNat ++ l.take a.toNat else l
theorem cutP_len (l : List Int) (a : Int) : (cutP l a).length = l.length := by
  unfold cutP
  split
  · rename_i h; simp; omega
  · rfl

theorem impl_cut (l : List Int) (a : Int) (hl : l.length ≤ 1048576) : impl_Cut.f l a = some (cutP l a) := by
  unfold impl_Cut.f impl_InRange.f cutP
  by_cases h1 : 0 ≤ a
  · by_cases h2 : a ≤ (l.length : Int)
    · have h3 : (l.drop a.toNat).length < 17592186044416 := by simp; omega
      have h4 : (l.drop a.toNat).length + (l.take a.toNat).length < 17592186044416 := by simp; omega
      simp only [if_pos h1, h2, decide_true, Option.bind_some, if_true, copy_of _ h3, if_pos h4, h1, and_self]
    · simp [h1, h2, copy_of l (by omega)]
  · simp [h1, copy_of l (by omega)]

/-! ### Riffle -/
def rifP : List Int → List Int → List Int
  | [], b => b
  | x :: a, [] => x :: a
  | x :: a, y :: b => x :: y :: rifP a b
theorem rifP_nil (a : List Int) : rifP a [] = a := by cases a <;> rfl
theorem rifP_len (a : List Int) : ∀ b, (rifP a b).length = a.length + b.length := by
  induction a with
  | nil => intro b; simp [rifP]
  | cons x a ih =>
    intro b
    cases b with
    | nil => simp [rifP]
    | cons y b => simp [rifP, ih]; omega
theorem drop_at (b : List Int) (i : Nat) (h : i < b.length) : b.drop i = rd b (i : Int) :: b.drop (i + 1) := by
  rw [List.drop_eq_getElem_cons h]
  congr 1
  unfold rd
  rw [List.getD_eq_getElem?_getD, Int.toNat_natCast, List.getElem?_eq_getElem h]
  rfl
theorem rif_step (a b : List Int) (i : Nat) : rifP (a.drop i) (b.drop i) = (if i < a.length then [rd a (i : Int)] else []) ++ (if i < b.length then [rd b (i : Int)] else []) ++ rifP (a.drop (i + 1)) (b.drop (i + 1)) := by
  by_cases ha : i < a.length
  · rw [if_pos ha, drop_at a i ha]
    by_cases hb : i < b.length
    · rw [if_pos hb, drop_at b i hb]
      rfl
    · rw [if_neg hb, List.drop_eq_nil_of_le (by omega : b.length ≤ i), List.drop_eq_nil_of_le (by omega : b.length ≤ i + 1), rifP_nil, rifP_nil]
      rfl
  · rw [if_neg ha, List.drop_eq_nil_of_le (by omega : a.length ≤ i), List.drop_eq_nil_of_le (by omega : a.length ≤ i + 1)]
    by_cases hb : i < b.length
    · rw [if_pos hb, drop_at b i hb]
      rfl
    · rw [if_neg hb, List.drop_eq_nil_of_le (by omega : b.length ≤ i), List.drop_eq_nil_of_le (by omega : b.length ≤ i + 1)]
      rfl
theorem implRif_loop (a b : List Int) (ha : a.length ≤ 1048576) (hb : b.length ≤ 1048576) : ∀ (n i : Nat) (acc : List Int), max a.length b.length ≤ i + n → acc.length ≤ 2 * i → i ≤ 1048576 → Ev (fun k => impl_Riffle.l0 k a b acc (mx (a.length : Int) (b.length : Int)) (i : Int)) (acc ++ rifP (a.drop i) (b.drop i)) := by
  have hmx : mx (a.length : Int) (b.length : Int) = ((max a.length b.length : Nat) : Int) := by
    unfold mx
    split <;> omega
  rw [hmx]
  intro n
  induction n with
  | zero =>
    intro i acc hi hacc hib
    refine ev_end fun k => ?_
    simp only [impl_Riffle.l0]
    rw [if_neg (by omega), List.drop_eq_nil_of_le (by omega : a.length ≤ i), List.drop_eq_nil_of_le (by omega : b.length ≤ i)]
    simp [rifP]
  | succ n ih =>
    intro i acc hi hacc hib
    by_cases hm : i < max a.length b.length
    · have hc : ((i : Int) + 1) = ((i + 1 : Nat) : Int) := by omega
      by_cases h1 : i < a.length
      · by_cases h2 : i < b.length
        · refine Ev.step (fun k => ?_) (ev_eq (ih (i + 1) (acc ++ [rd a (i : Int)] ++ [rd b (i : Int)]) (by omega) (by simp; omega) (by omega)) (by rw [rif_step a b i, if_pos h1, if_pos h2]; simp))
          simp only [impl_Riffle.l0]
          rw [if_pos (by omega), if_pos (by omega), if_pos (by omega), if_pos (by omega), wrap_ok (n := (i : Int) + 1) (by omega), hc]
          simp only [Option.bind_some]
          rw [if_pos (by omega), if_pos (by simp; omega)]
        · refine Ev.step (fun k => ?_) (ev_eq (ih (i + 1) (acc ++ [rd a (i : Int)]) (by omega) (by simp; omega) (by omega)) (by rw [rif_step a b i, if_pos h1, if_neg h2]; simp))
          simp only [impl_Riffle.l0]
          rw [if_pos (by omega), if_pos (by omega), if_pos (by omega), if_pos (by omega), wrap_ok (n := (i : Int) + 1) (by omega), hc]
          simp only [Option.bind_some]
          rw [if_neg (by omega)]
      · have h2 : i < b.length := by omega
        refine Ev.step (fun k => ?_) (ev_eq (ih (i + 1) (acc ++ [rd b (i : Int)]) (by omega) (by simp; omega) (by omega)) (by rw [rif_step a b i, if_neg h1, if_pos h2]; simp))
        simp only [impl_Riffle.l0]
        rw [if_pos (by omega), if_neg (by omega), if_pos (by omega), if_pos (by omega), if_pos (by omega), wrap_ok (n := (i : Int) + 1) (by omega), hc]
    · refine ev_end fun k => ?_
      simp only [impl_Riffle.l0]
      rw [if_neg (by omega), List.drop_eq_nil_of_le (by omega : a.length ≤ i), List.drop_eq_nil_of_le (by omega : b.length ≤ i)]
      simp [rifP]
theorem implRif_ev (a b : List Int) (ha : a.length ≤ 1048576) (hb : b.length ≤ 1048576) : Ev (fun k => impl_Riffle.f k a b) (rifP a b) := implRif_loop a b ha hb (max a.length b.length) 0 [] (by omega) (by simp) (by omega)

def placeP : List Int → Int → Int → Int
  | [], _, _ => -1
  | x :: s, c, i => if x = c then i else placeP s c (i + 1)
theorem place_mem (l : List Int) (c i : Int) (h : 0 ≤ i) : placeP l c i ≥ 0 ↔ c ∈ l := by
  induction l generalizing i with
  | nil => simp [placeP]
  | cons x s ih =>
    unfold placeP
    by_cases hx : x = c
    · rw [if_pos hx]; simp [hx, h]
    · rw [if_neg hx, ih (i + 1) (by omega)]
      have : ¬ c = x := fun e => hx e.symm
      simp [this]
theorem implPlace_loop (l : List Int) (c : Int) (hl : l.length ≤ 35184372088832) : ∀ (suf pre : List Int), l = pre ++ suf → Ev (fun k => impl_PlaceOf.l0 k c l (l.length : Int) (pre.length : Int)) (placeP suf c (pre.length : Int)) := by
  intro suf
  induction suf with
  | nil =>
    intro pre h
    obtain ⟨_, h2⟩ := end_facts h
    refine ev_end fun k => ?_
    simp only [impl_PlaceOf.l0]
    rw [if_neg h2]
    rfl
  | cons x suf ih =>
    intro pre h
    obtain ⟨h1, h2, h3, h4⟩ := mid_facts h hl
    by_cases hx : x = c
    · refine ev_end fun k => ?_
      simp only [impl_PlaceOf.l0]
      rw [if_pos h1, if_pos (by omega), if_pos h1, h2, if_pos hx]
      simp [placeP, hx]
    · refine Ev.step (fun k => ?_) (ev_eq (ih (pre ++ [x]) h4) (by rw [snoc_len]; simp [placeP, hx]))
      simp only [impl_PlaceOf.l0]
      rw [if_pos h1, if_pos (by omega), if_pos h1, h2, if_neg hx, h3]
theorem implPlace_ev (l : List Int) (c : Int) (hl : l.length ≤ 35184372088832) : Ev (fun k => impl_PlaceOf.f k l c) (placeP l c 0) := implPlace_loop l c hl l [] rfl

theorem implHas_ev (l : List Int) (c : Int) (hl : l.length ≤ 35184372088832) : Ev (fun k => impl_HasCard.f k l c) (decide (c ∈ l)) := by
  unfold impl_HasCard.f
  refine ev_bind (implPlace_ev l c hl) ?_
  refine ev_some fun _ => ?_
  congr 1
  rw [decide_eq_decide]
  exact place_mem l c 0 (by omega)

def cardP (c : Int) : Bool := decide (0 ≤ c ∧ c ≤ 51)

theorem impl_card (c : Int) : impl_IsCard.f c = some (cardP c) := by
  unfold impl_IsCard.f impl_InRange.f cardP
  by_cases h : 0 ≤ c
  · simp [h]
  · simp [h]

/-! ### IsHand -/
def handF : List Int → List Int → Bool
  | _, [] => true
  | pre, x :: s => if cardP x = true then (if x ∈ pre then false else handF (pre ++ [x]) s) else false
def handP (l : List Int) : Bool := handF [] l

theorem implHand_loop (l : List Int) (hl : l.length ≤ 35184372088832) : ∀ (suf pre : List Int) (sn : List Bool), l = pre ++ suf → sn.length = 52 → (∀ n, n < 52 → sn.getD n false = decide ((n : Int) ∈ pre)) → Ev (fun k => impl_IsHand.l0 k sn l (l.length : Int) (pre.length : Int)) (handF pre suf) := by
  intro suf
  induction suf with
  | nil =>
    intro pre sn h _ _
    obtain ⟨_, h2⟩ := end_facts h
    refine ev_end fun k => ?_
    simp only [impl_IsHand.l0]
    rw [if_neg h2]
    rfl
  | cons x suf ih =>
    intro pre sn h hs hn
    obtain ⟨h1, h2, h3, h4⟩ := mid_facts h hl
    cases hc : cardP x with
    | false =>
      refine ev_end fun k => ?_
      simp only [impl_IsHand.l0]
      rw [if_pos h1, if_pos (by omega), if_pos h1, h2, impl_card, hc]
      simp [handF, hc]
    | true =>
      have hx : 0 ≤ x ∧ x ≤ 51 := by simpa [cardP] using hc
      have hg := hn x.toNat (by omega)
      rw [Int.toNat_of_nonneg hx.1] at hg
      by_cases hm : x ∈ pre
      · have hg2 : sn.getD x.toNat false = true := by rw [hg]; simp [hm]
        refine ev_end fun k => ?_
        simp only [impl_IsHand.l0]
        rw [if_pos h1, if_pos (by omega), if_pos h1, h2, impl_card, hc]
        simp only [Option.bind_some]
        rw [if_pos trivial, if_pos hg2]
        simp [handF, hc, hm]
      · have hg2 : ¬ sn.getD x.toNat false = true := by rw [hg]; simp [hm]
        refine Ev.step (fun k => ?_) (ev_eq (ih (pre ++ [x]) (sn.set x.toNat true) h4 (by simpa using hs) ?_) (by simp [handF, hc, hm]))
        · simp only [impl_IsHand.l0]
          rw [if_pos h1, if_pos (by omega), if_pos h1, h2, impl_card, hc]
          simp only [Option.bind_some]
          rw [if_pos trivial, if_neg hg2, h3]
        · intro n hn52
          by_cases e : n = x.toNat
          · subst e
            rw [List.getD_eq_getElem?_getD, List.getElem?_set_self (by omega)]
            simp [Int.toNat_of_nonneg hx.1]
          · have e2 : ¬ (n : Int) = x := by omega
            rw [List.getD_eq_getElem?_getD, List.getElem?_set_ne (by omega), ← List.getD_eq_getElem?_getD, hn n hn52]
            simp [e2]
theorem implHand_ev (l : List Int) (hl : l.length ≤ 35184372088832) : Ev (fun k => impl_IsHand.f k l) (handP l) := implHand_loop l hl l [] (List.replicate 52 false) rfl (by simp) (by
  intro n hn
  rw [List.getD_eq_getElem?_getD, List.getElem?_replicate, if_pos hn]
  simp)

/-- The cards i, i + 1, .. (n of them) that are not in l. -/
def missFrom (l : List Int) : Int → Nat → List Int
  | _, 0 => []
  | i, n + 1 => if i ∈ l then missFrom l (i + 1) n else i :: missFrom l (i + 1) n
theorem miss_len (l : List Int) (n : Nat) : ∀ i, (missFrom l i n).length ≤ n := by
  induction n with
  | zero => intro i; simp [missFrom]
  | succ n ih =>
    intro i
    have := ih (i + 1)
    unfold missFrom
    split
    · omega
    · simp; omega

theorem implMiss_loop (l : List Int) (hl : l.length ≤ 35184372088832) : ∀ (n : Nat) (i : Int) (acc : List Int), 0 ≤ i → i + n = 52 → acc.length ≤ i → Ev (fun k => impl_Missing.l0 k l acc i) (acc ++ missFrom l i n) := by
  intro n
  induction n with
  | zero =>
    intro i acc h0 hi hacc
    refine ev_end fun k => ?_
    simp only [impl_Missing.l0]
    rw [if_neg (by omega)]
    simp [missFrom]
  | succ n ih =>
    intro i acc h0 hi hacc
    by_cases hm : i ∈ l
    · refine Ev.step (f := fun k => (impl_HasCard.f k l i).bind fun t => if t = true then impl_Missing.l0 k l acc (i + 1) else impl_Missing.l0 k l (acc ++ [i]) (i + 1)) (fun k => ?_) ?_
      · simp only [impl_Missing.l0]
        rw [if_pos (by omega), wrap_ok (by omega)]
        simp only [if_pos (show acc.length < 17592186044416 by omega)]
      · refine ev_bind (implHas_ev l i hl) ?_
        refine ev_pos (by simp [hm]) ?_
        exact ev_eq (ih (i + 1) acc (by omega) (by omega) (by omega)) (by simp [missFrom, hm])
    · refine Ev.step (f := fun k => (impl_HasCard.f k l i).bind fun t => if t = true then impl_Missing.l0 k l acc (i + 1) else impl_Missing.l0 k l (acc ++ [i]) (i + 1)) (fun k => ?_) ?_
      · simp only [impl_Missing.l0]
        rw [if_pos (by omega), wrap_ok (by omega)]
        simp only [if_pos (show acc.length < 17592186044416 by omega)]
      · refine ev_bind (implHas_ev l i hl) ?_
        refine ev_neg (by simp [hm]) ?_
        exact ev_eq (ih (i + 1) (acc ++ [i]) (by omega) (by omega) (by simp; omega)) (by simp [missFrom, hm])
theorem implMiss_ev (l : List Int) (hl : l.length ≤ 35184372088832) : Ev (fun k => impl_Missing.f k l) (missFrom l 0 52) := implMiss_loop l hl 52 0 [] (by omega) (by omega) (by simp)

theorem specMiss_loop (l : List Int) (hl : l.length ≤ 35184372088832) : ∀ (n : Nat) (i : Int) (acc : List Int), 0 ≤ i → i + n = 52 → acc.length ≤ i → Ev (fun k => spec_Missing.l0 k l acc i) (acc ++ missFrom l i n) := by
  intro n
  induction n with
  | zero =>
    intro i acc h0 hi hacc
    refine ev_end fun k => ?_
    simp only [spec_Missing.l0]
    rw [if_neg (by omega)]
    simp [missFrom]
  | succ n ih =>
    intro i acc h0 hi hacc
    by_cases hm : i ∈ l
    · refine Ev.step (f := fun k => (spec_HasCard.f k l i).bind fun t => if t = true then spec_Missing.l0 k l acc (i + 1) else spec_Missing.l0 k l (acc ++ [i]) (i + 1)) (fun k => ?_) ?_
      · simp only [spec_Missing.l0]
        rw [if_pos (by omega), wrap_ok (by omega)]
        simp only [if_pos (show acc.length < 17592186044416 by omega)]
      · refine ev_bind (specHas_ev l i hl) ?_
        refine ev_pos (by simp [hm]) ?_
        exact ev_eq (ih (i + 1) acc (by omega) (by omega) (by omega)) (by simp [missFrom, hm])
    · refine Ev.step (f := fun k => (spec_HasCard.f k l i).bind fun t => if t = true then spec_Missing.l0 k l acc (i + 1) else spec_Missing.l0 k l (acc ++ [i]) (i + 1)) (fun k => ?_) ?_
      · simp only [spec_Missing.l0]
        rw [if_pos (by omega), wrap_ok (by omega)]
        simp only [if_pos (show acc.length < 17592186044416 by omega)]
      · refine ev_bind (specHas_ev l i hl) ?_
        refine ev_neg (by simp [hm]) ?_
        exact ev_eq (ih (i + 1) (acc ++ [i]) (by omega) (by omega) (by simp; omega)) (by simp [missFrom, hm])
theorem specMiss_ev (l : List Int) (hl : l.length ≤ 35184372088832) : Ev (fun k => spec_Missing.f k l) (missFrom l 0 52) := specMiss_loop l hl 52 0 [] (by omega) (by omega) (by simp)

/-! ### Insertion sort -/
def posP (v : Int) (ys : List Int) : Nat → Nat
  | 0 => 0
  | k + 1 => if rd ys (k : Int) > v then posP v ys k else k + 1
theorem posP_le (v : Int) (ys : List Int) : ∀ k, posP v ys k ≤ k
  | 0 => Nat.le_refl _
  | k + 1 => by
    unfold posP
    have := posP_le v ys k
    split <;> omega
def putP (ys : List Int) (p : Nat) (v : Int) : List Int := ys.take p ++ v :: ys.drop p
def insP (ys : List Int) (v : Int) : List Int := putP ys (posP v ys ys.length) v
def sortP (l : List Int) : List Int := l.foldl insP []
theorem putP_len (ys : List Int) (p : Nat) (v : Int) (h : p ≤ ys.length) : (putP ys p v).length = ys.length + 1 := by
  unfold putP
  rw [List.length_append, List.length_cons, List.length_take, List.length_drop]
  omega
theorem insP_len (ys : List Int) (v : Int) : (insP ys v).length = ys.length + 1 := putP_len _ _ _ (posP_le _ _ _)
theorem foldIns_len (l : List Int) : ∀ acc : List Int, (l.foldl insP acc).length = acc.length + l.length := by
  induction l with
  | nil => intro acc; rfl
  | cons x l ih =>
    intro acc
    rw [List.foldl_cons, ih, insP_len, List.length_cons]
    omega
theorem sortP_len (l : List Int) : (sortP l).length = l.length := by
  unfold sortP
  rw [foldIns_len]
  simp

theorem shift_set (ys : List Int) (p : Nat) (v : Int) (hp : p ≤ ys.length) : (impl_Sorted.sh (ys ++ [0]) p).set p v = putP ys p v := by
  obtain ⟨a, b, rfl, ha⟩ : ∃ a b : List Int, ys = a ++ b ∧ a.length = p := ⟨ys.take p, ys.drop p, (List.take_append_drop _ _).symm, by rw [List.length_take]; omega⟩
  subst ha
  obtain ⟨x, xs, hx⟩ : ∃ x xs, b ++ [0] = x :: xs := by
    cases b with
    | nil => exact ⟨0, [], rfl⟩
    | cons y b => exact ⟨y, b ++ [0], rfl⟩
  unfold impl_Sorted.sh splice putP
  have e1 : ((a ++ b) ++ [0]).drop a.length = b ++ [0] := by rw [List.append_assoc, List.drop_left]
  have e2 : (b ++ [0]).take (((a ++ b) ++ [0]).length - (a.length + 1)) = b := by
    have e5 : ((a ++ b) ++ [(0 : Int)]).length - (a.length + 1) = b.length := by simp; omega
    rw [e5]
    exact List.take_left ..
  have e3 : ((a ++ b) ++ [0]).take (a.length + 1) = a ++ [x] := by
    rw [List.append_assoc, hx, List.take_append]
    simp
    exact List.take_of_length_le (by omega)
  have e4 : ((a ++ b) ++ [0]).drop (a.length + 1 + b.length) = [] := List.drop_eq_nil_of_le (by simp; omega)
  rw [e1, e2, e3, e4, List.append_nil, List.append_assoc, List.set_append_right _ _ (Nat.le_refl _)]
  simp
theorem implSort_in (l ys : List Int) (v : Int) (n i : Int) (hy : ys.length ≤ 1048576) (r : List Int) : ∀ j : Nat, j ≤ ys.length → Ev (fun k => impl_Sorted.l0 k (putP ys (posP v ys j) v) l n (wrap64 (i + 1))) r → Ev (fun k => impl_Sorted.l1 k ys v (j : Int) l n i) r := by
  have hlz : (ys ++ [(0 : Int)]).length = ys.length + 1 := by simp
  intro j
  induction j with
  | zero =>
    intro _ h
    refine Ev.step (fun k => ?_) h
    simp only [impl_Sorted.l1]
    rw [if_neg (by omega), if_pos (by omega)]
    simp only [Option.bind_some]
    rw [if_pos (by omega), if_pos (by omega)]
    rw [Int.toNat_natCast, shift_set ys 0 v (by omega)]
    rfl
  | succ j ih =>
    intro hj h
    have hw : wrap64 (((j + 1 : Nat) : Int) - 1) = (j : Int) := by rw [wrap_ok (by omega)]; omega
    unfold posP at h
    by_cases hc : rd ys (j : Int) > v
    · rw [if_pos hc] at h
      refine Ev.step (fun k => ?_) (ih (by omega) h)
      simp only [impl_Sorted.l1]
      rw [if_pos (by omega), hw, if_pos (by omega), if_pos (by omega), if_pos hc]
    · rw [if_neg hc] at h
      refine Ev.step (fun k => ?_) h
      simp only [impl_Sorted.l1]
      rw [if_pos (by omega), hw, if_pos (by omega), if_pos (by omega), if_neg hc, if_pos (by omega)]
      simp only [Option.bind_some]
      rw [if_pos (by omega), if_pos (by omega)]
      rw [Int.toNat_natCast, shift_set ys (j + 1) v (by omega)]
theorem implSort_loop (l : List Int) (hl : l.length ≤ 1048576) : ∀ (suf pre acc : List Int), l = pre ++ suf → acc.length = pre.length → Ev (fun k => impl_Sorted.l0 k acc l (l.length : Int) (pre.length : Int)) (suf.foldl insP acc) := by
  intro suf
  induction suf with
  | nil =>
    intro pre acc h hacc
    obtain ⟨_, h2⟩ := end_facts h
    refine ev_end fun k => ?_
    simp only [impl_Sorted.l0]
    rw [if_neg h2]
    rfl
  | cons x suf ih =>
    intro pre acc h hacc
    obtain ⟨h1, h2, h3, h4⟩ := mid_facts h (by omega)
    have hpl : pre.length ≤ l.length := by rw [h]; simp
    refine Ev.step (f := fun k => impl_Sorted.l1 k acc x (acc.length : Int) l (l.length : Int) (pre.length : Int)) (fun k => ?_) ?_
    · simp only [impl_Sorted.l0]
      rw [if_pos h1, if_pos (by omega), if_pos h1, h2]
    · refine implSort_in l acc x _ _ (by omega) _ acc.length (Nat.le_refl _) ?_
      rw [h3]
      exact ih (pre ++ [x]) (insP acc x) h4 (by rw [insP_len]; simp; omega)
theorem implSort_ev (l : List Int) (hl : l.length ≤ 1048576) : Ev (fun k => impl_Sorted.f k l) (sortP l) := implSort_loop l hl l [] [] rfl rfl

theorem implEq_loop (a b : List Int) (hl : a.length ≤ 35184372088832) : ∀ (s1 s2 p1 p2 : List Int), a = p1 ++ s1 → b = p2 ++ s2 → p1.length = p2.length → s1.length = s2.length → Ev (fun k => impl_EqualInts.l0 k a b (a.length : Int) (p1.length : Int)) (decide (s1 = s2)) := by
  intro s1
  induction s1 with
  | nil =>
    intro s2 p1 p2 ha hb hp hs
    obtain rfl : s2 = [] := List.eq_nil_of_length_eq_zero hs.symm
    obtain ⟨_, h2⟩ := end_facts ha
    refine ev_end fun k => ?_
    simp only [impl_EqualInts.l0]
    rw [if_neg h2]
    simp
  | cons x s1 ih =>
    intro s2 p1 p2 ha hb hp hs
    cases s2 with
    | nil => simp at hs
    | cons y s2 =>
    obtain ⟨h1, h2, h3, h4⟩ := mid_facts ha hl
    have hb1 : b.length = p2.length + (s2.length + 1) := by rw [hb]; simp
    have hb2 : rd b (p1.length : Int) = y := by rw [hp, hb]; exact rd_mid p2 y s2
    have hb3 : b = (p2 ++ [y]) ++ s2 := by rw [hb]; simp
    by_cases hxy : x = y
    · refine Ev.step (fun k => ?_) (ev_eq (ih s2 (p1 ++ [x]) (p2 ++ [y]) h4 hb3 (by simp [hp]) (by simpa using hs)) (by simp [hxy]))
      simp only [impl_EqualInts.l0]
      rw [if_pos h1, if_pos (by omega), if_pos (by omega), if_pos (by omega), h2, hb2, if_pos hxy, h3]
    · refine ev_end fun k => ?_
      simp only [impl_EqualInts.l0]
      rw [if_pos h1, if_pos (by omega), if_pos (by omega), if_pos (by omega), h2, hb2, if_neg hxy]
      simp [hxy]
theorem implEq_ev (a b : List Int) (hl : a.length ≤ 35184372088832) : Ev (fun k => impl_EqualInts.f k a b) (decide (a = b)) := by
  by_cases h : a.length = b.length
  · refine Ev.congr (fun k => ?_) (implEq_loop a b hl a b [] [] rfl rfl rfl h)
    unfold impl_EqualInts.f
    rw [if_pos (by omega)]
    rfl
  · refine ev_some fun k => ?_
    unfold impl_EqualInts.f
    rw [if_neg (by omega)]
    have : a ≠ b := fun e => h (by rw [e])
    simp [this]

/-! ### The sorted list: a permutation, in order; so there is but one -/
theorem posP_spec (v : Int) (ys : List Int) : ∀ k : Nat, (∀ i : Nat, posP v ys k ≤ i → i < k → rd ys (i : Int) > v) ∧ (posP v ys k = 0 ∨ rd ys ((posP v ys k - 1 : Nat) : Int) ≤ v)
  | 0 => ⟨fun i _ h => by omega, Or.inl rfl⟩
  | k + 1 => by
    obtain ⟨h1, h2⟩ := posP_spec v ys k
    unfold posP
    by_cases hc : rd ys (k : Int) > v
    · rw [if_pos hc]
      refine ⟨fun i hi hk => ?_, h2⟩
      by_cases e : i = k
      · rw [e]; exact hc
      · exact h1 i hi (by omega)
    · rw [if_neg hc]
      refine ⟨fun i hi hk => by omega, Or.inr ?_⟩
      rw [show k + 1 - 1 = k by omega]
      omega
theorem rd_get (ys : List Int) (i : Nat) (h : i < ys.length) : rd ys (i : Int) = ys[i] := by simp [rd, h]
theorem put_perm (ys : List Int) (p : Nat) (v : Int) : (putP ys p v).Perm (v :: ys) := by
  unfold putP
  refine List.perm_middle.trans ?_
  rw [List.take_append_drop]
theorem fold_perm (l : List Int) : ∀ acc : List Int, (l.foldl insP acc).Perm (acc ++ l) := by
  induction l with
  | nil => intro acc; simp
  | cons x l ih =>
    intro acc
    rw [List.foldl_cons]
    refine (ih _).trans ?_
    refine ((put_perm acc _ x).append_right l).trans ?_
    exact List.perm_middle.symm
theorem sort_perm (l : List Int) : (sortP l).Perm l := fold_perm l []
theorem ins_sorted (ys : List Int) (v : Int) (h : ys.Pairwise (· ≤ ·)) : (insP ys v).Pairwise (· ≤ ·) := by
  have hp := posP_le v ys ys.length
  obtain ⟨h1, h2⟩ := posP_spec v ys ys.length
  unfold insP putP
  generalize posP v ys ys.length = p at hp h1 h2
  have hs : ∀ i j : Nat, (hi : i < ys.length) → (hj : j < ys.length) → i < j → ys[i] ≤ ys[j] := fun i j hi hj hij => List.pairwise_iff_getElem.1 h i j hi hj hij
  have ht : ∀ x ∈ ys.take p, x ≤ v := by
    intro x hx
    obtain ⟨i, hi, rfl⟩ := List.getElem_of_mem hx
    rw [List.length_take] at hi
    rw [List.getElem_take]
    rcases h2 with h2 | h2
    · omega
    · rw [rd_get ys (p - 1) (by omega)] at h2
      by_cases e : i = p - 1
      · subst e; exact h2
      · exact Int.le_trans (hs i (p - 1) (by omega) (by omega) (by omega)) h2
  have hd : ∀ x ∈ ys.drop p, v ≤ x := by
    intro x hx
    obtain ⟨i, hi, rfl⟩ := List.getElem_of_mem hx
    rw [List.length_drop] at hi
    rw [List.getElem_drop]
    have := h1 (p + i) (by omega) (by omega)
    rw [rd_get ys (p + i) (by omega)] at this
    omega
  rw [List.pairwise_append]
  refine ⟨h.sublist (List.take_sublist _ _), ?_, ?_⟩
  · rw [List.pairwise_cons]
    exact ⟨hd, h.sublist (List.drop_sublist _ _)⟩
  · intro a ha b hb
    rcases List.mem_cons.1 hb with rfl | hb
    · exact ht a ha
    · exact Int.le_trans (ht a ha) (hd b hb)
theorem fold_sorted (l : List Int) : ∀ acc : List Int, acc.Pairwise (· ≤ ·) → (l.foldl insP acc).Pairwise (· ≤ ·) := by
  induction l with
  | nil => intro acc h; exact h
  | cons x l ih => intro acc h; exact ih _ (ins_sorted acc x h)
theorem sort_sorted (l : List Int) : (sortP l).Pairwise (· ≤ ·) := fold_sorted l [] List.Pairwise.nil
theorem sort_same (a b : List Int) (h : a.Perm b) : sortP a = sortP b :=
  List.Perm.eq_of_pairwise (fun _ _ _ _ h1 h2 => Int.le_antisymm h1 h2) (sort_sorted a) (sort_sorted b) (((sort_perm a).trans h).trans (sort_perm b).symm)
theorem implSame_ev (a b : List Int) (ha : a.length ≤ 1048576) (hb : b.length ≤ 1048576) : Ev (fun k => impl_SameCards.f k a b) (decide (sortP a = sortP b)) := by
  unfold impl_SameCards.f
  refine ev_bind (implSort_ev a ha) ?_
  refine ev_bind (implSort_ev b hb) ?_
  refine ev_bind (implEq_ev _ _ (by rw [sortP_len]; omega)) ?_
  exact Ev.now _
theorem implSame_perm (a b : List Int) (ha : a.length ≤ 1048576) (h : a.Perm b) : Ev (fun k => impl_SameCards.f k a b) true :=
  ev_eq (implSame_ev a b ha (by rw [← h.length_eq]; exact ha)) (decide_eq_true (sort_same a b h))

theorem siX_loop (a b : List Int) (hl : a.length ≤ 35184372088832) : ∀ (s1 s2 p1 p2 : List Int), a = p1 ++ s1 → b = p2 ++ s2 → p1.length = p2.length → s1.length = s2.length → Ev (fun k => laws_sameInts.l0 k a b (p1.length : Int)) (decide (s1 = s2)) := by
  intro s1
  induction s1 with
  | nil =>
    intro s2 p1 p2 ha hb hp hs
    obtain rfl : s2 = [] := List.eq_nil_of_length_eq_zero hs.symm
    obtain ⟨_, h2⟩ := end_facts ha
    refine ev_end fun k => ?_
    simp only [laws_sameInts.l0]
    rw [if_neg h2]
    simp
  | cons x s1 ih =>
    intro s2 p1 p2 ha hb hp hs
    cases s2 with
    | nil => simp at hs
    | cons y s2 =>
    obtain ⟨h1, h2, h3, h4⟩ := mid_facts ha hl
    have hb1 : b.length = p2.length + (s2.length + 1) := by rw [hb]; simp
    have hb2 : rd b (p1.length : Int) = y := by rw [hp, hb]; exact rd_mid p2 y s2
    have hb3 : b = (p2 ++ [y]) ++ s2 := by rw [hb]; simp
    by_cases hxy : x = y
    · refine Ev.step (fun k => ?_) (ev_eq (ih s2 (p1 ++ [x]) (p2 ++ [y]) h4 hb3 (by simp [hp]) (by simpa using hs)) (by simp [hxy]))
      simp only [laws_sameInts.l0]
      rw [if_pos h1, if_pos (by omega), if_pos (by omega), h2, hb2, if_pos hxy, h3]
    · refine ev_end fun k => ?_
      simp only [laws_sameInts.l0]
      rw [if_pos h1, if_pos (by omega), if_pos (by omega), h2, hb2, if_neg hxy]
      simp [hxy]
theorem siX_ev (a b : List Int) (hl : a.length ≤ 35184372088832) : Ev (fun k => laws_sameInts.f k a b) (decide (a = b)) := by
  by_cases h : a.length = b.length
  · refine Ev.congr (fun k => ?_) (siX_loop a b hl a b [] [] rfl rfl rfl h)
    unfold laws_sameInts.f
    rw [if_pos (by omega)]
    rfl
  · refine ev_some fun k => ?_
    unfold laws_sameInts.f
    rw [if_neg (by omega)]
    have : a ≠ b := fun e => h (by rw [e])
    simp [this]
theorem siX_same (a : List Int) (hl : a.length ≤ 35184372088832) : Ev (fun k => laws_sameInts.f k a a) true := ev_eq (siX_ev a a hl) (by simp)

theorem shufF_perm (seed : Int) : ∀ (n : Nat) (l : List Int) (i : Int), i < (l.length : Int) → i = n ∨ n = 0 → (shufF seed n l i).Perm l := by
  intro n
  induction n with
  | zero => intro l i _ _; exact List.Perm.refl _
  | succ n ih =>
    intro l i hi hn
    have hj0 := Int.emod_nonneg (hashP [seed, i]) (show i + 1 ≠ 0 by omega)
    have hj1 := Int.emod_lt_of_pos (hashP [seed, i]) (show 0 < i + 1 by omega)
    unfold shufF
    generalize hashP [seed, i] % (i + 1) = j at hj0 hj1
    obtain ⟨a, rfl⟩ : ∃ a : Nat, i = (a : Int) := ⟨i.toNat, by omega⟩
    obtain ⟨b, rfl⟩ : ∃ b : Nat, j = (b : Int) := ⟨j.toNat, by omega⟩
    refine (ih _ _ (by simp; omega) (by omega)).trans ?_
    rw [Int.toNat_natCast, Int.toNat_natCast, rd_get l a (by omega), rd_get l b (by omega)]
    exact List.set_set_perm (by omega) (by omega)
theorem shuf_perm (l : List Int) (seed : Int) : (shufP l seed).Perm l := by
  unfold shufP
  by_cases h : l.length = 0
  · rw [List.eq_nil_of_length_eq_zero h]
    exact List.Perm.refl _
  · exact shufF_perm seed _ l _ (by omega) (by omega)
theorem cut_perm (l : List Int) (a : Int) : (cutP l a).Perm l := by
  unfold cutP
  split
  · exact List.perm_append_comm.trans (by rw [List.take_append_drop])
  · exact List.Perm.refl _
theorem cut_back (l : List Int) (a : Int) (h0 : 0 ≤ a) (h1 : a ≤ (l.length : Int)) : cutP (cutP l a) ((l.length : Int) - a) = l := by
  have hl := cutP_len l a
  obtain ⟨n, rfl⟩ : ∃ n : Nat, a = (n : Int) := ⟨a.toNat, by omega⟩
  have e1 : cutP l (n : Int) = l.drop n ++ l.take n := by unfold cutP; rw [if_pos ⟨h0, h1⟩, Int.toNat_natCast]
  have e2 : ((l.length : Int) - (n : Int)).toNat = (l.drop n).length := by rw [List.length_drop]; omega
  have e3 : ∀ x : List Int, x.length = l.length → cutP x ((l.length : Int) - (n : Int)) = x.drop (l.drop n).length ++ x.take (l.drop n).length := by
    intro x hx
    unfold cutP
    rw [if_pos ⟨by omega, by omega⟩, e2]
  rw [e3 _ hl, e1, List.drop_left, List.take_left, List.take_append_drop]
theorem rif_perm (a : List Int) : ∀ b, (rifP a b).Perm (a ++ b) := by
  induction a with
  | nil => intro b; exact List.Perm.refl _
  | cons x a ih =>
    intro b
    cases b with
    | nil => simp [rifP]
    | cons y b =>
      unfold rifP
      refine List.Perm.cons x ?_
      exact (List.Perm.cons y (ih b)).trans List.perm_middle.symm
theorem place_at (l : List Int) (c : Int) : ∀ i : Int, 0 ≤ i → c ∈ l → i ≤ placeP l c i ∧ placeP l c i < i + (l.length : Int) ∧ rd l (placeP l c i - i) = c := by
  induction l with
  | nil => intro i _ h; simp at h
  | cons x l ih =>
    intro i h0 hc
    unfold placeP
    by_cases e : x = c
    · rw [if_pos e]
      refine ⟨by omega, by simp; omega, ?_⟩
      rw [show i - i = ((0 : Nat) : Int) by omega, rd_get _ 0 (by simp)]
      simpa using e
    · rw [if_neg e]
      have hc2 : c ∈ l := by
        rcases List.mem_cons.1 hc with rfl | hc
        · exact absurd rfl e
        · exact hc
      obtain ⟨a1, a2, a3⟩ := ih (i + 1) (by omega) hc2
      refine ⟨by omega, by simp only [List.length_cons]; omega, ?_⟩
      obtain ⟨n, hn⟩ : ∃ n : Nat, placeP l c (i + 1) - (i + 1) = (n : Int) := ⟨(placeP l c (i + 1) - (i + 1)).toNat, by omega⟩
      rw [hn, rd_get l n (by omega)] at a3
      rw [show placeP l c (i + 1) - i = ((n + 1 : Nat) : Int) by omega, rd_get _ (n + 1) (by simp only [List.length_cons]; omega)]
      simpa using a3
/-! ### What is drawn -/
theorem specFull_ev : Ev (fun k => spec_FullDeck.f k) (missFrom [] 0 52) := by
  unfold spec_FullDeck.f
  exact ev_bind (specMiss_ev [] (by simp)) (Ev.now _)
theorem implFull_ev : Ev (fun k => impl_FullDeck.f k) (missFrom [] 0 52) := by
  unfold impl_FullDeck.f
  exact ev_bind (implMiss_ev [] (by simp)) (Ev.now _)
theorem drawShuf_ev (l : List Int) (hl : l.length ≤ 1048576) : ∃ r s, Ev (fun k => spec_DrawShuffled.f k l) (r, s) ∧ r.length ≤ 52 := by
  obtain ⟨h, e⟩ := new_ev l hl
  obtain ⟨r, i1, k1, e1, hr, j1⟩ := any_ev l 0 h hl (by omega)
  obtain ⟨t, i2, k2, e2, j2⟩ := once_some l i1 k1 3 hl j1
  obtain ⟨s, i3, k3, e3, _, _, _, _⟩ := below_some l i2 k2 999 hl j2
  unfold spec_DrawShuffled.f
  cases t with
  | true =>
    refine ⟨missFrom [] 0 52, s, ?_, miss_len [] 52 0⟩
    refine ev_bind e ?_
    refine ev_bind e1 ?_
    refine ev_call e2 ?_
    refine ev_pos rfl ?_
    refine ev_bind specFull_ev ?_
    refine ev_call e3 ?_
    exact Ev.now _
  | false =>
    refine ⟨r, s, ?_, by omega⟩
    refine ev_bind e ?_
    refine ev_bind e1 ?_
    refine ev_call e2 ?_
    refine ev_neg (by simp) ?_
    refine ev_call e3 ?_
    exact Ev.now _
theorem drawCut_ev (l : List Int) (hl : l.length ≤ 1048576) : ∃ r s, Ev (fun k => spec_DrawCut.f k l) (r, s) ∧ r.length ≤ 8 := by
  obtain ⟨h, e⟩ := new_ev l hl
  obtain ⟨r, i1, k1, e1, hr, j1⟩ := any_ev l 0 h hl (by omega)
  obtain ⟨s, i3, k3, e3, _, _, _, _⟩ := below_some l i1 k1 12 hl j1
  refine ⟨r, wrap64 (s - 1), ?_, hr⟩
  unfold spec_DrawCut.f
  refine ev_bind e ?_
  refine ev_bind e1 ?_
  refine ev_call e3 ?_
  exact Ev.now _
theorem drawRif_ev (l : List Int) (hl : l.length ≤ 1048576) : ∃ a b, Ev (fun k => spec_DrawRiffle.f k l) (a, b) ∧ a.length ≤ 8 ∧ b.length ≤ 8 := by
  obtain ⟨h, e⟩ := new_ev l hl
  obtain ⟨r, i1, k1, e1, hr, j1⟩ := any_ev l 0 h hl (by omega)
  obtain ⟨r2, i2, k2, e2, hr2, _⟩ := any_ev l i1 k1 hl j1
  refine ⟨r, r2, ?_, hr, hr2⟩
  unfold spec_DrawRiffle.f
  refine ev_bind e ?_
  refine ev_bind e1 ?_
  refine ev_bind e2 ?_
  exact Ev.now _
/-! ### The law -/
theorem shuf_end (l0 : List Int) (hl : l0.length ≤ 1048576) : Ev (fun k => laws_FnShuffles.j1 k l0 false) true := by
  obtain ⟨a, b, e, ha, hb⟩ := drawRif_ev l0 hl
  obtain ⟨p, d, e2, hp⟩ := drawHas_ev l0 hl
  refine Ev.step (fun k => laws_FnShuffles.j1.eq_2 _ _ k) ?_
  refine ev_neg (by simp) ?_
  refine ev_bind e ?_
  refine ev_bind (implRif_ev a b (by omega) (by omega)) ?_
  refine ev_bind (a := (p, d)) (by unfold spec_DrawPlaceOf.f; exact ev_bind e2 (Ev.now _)) ?_
  refine ev_bind (implPlace_ev p d (by omega)) ?_
  refine ev_pos (by show ((rifP a b).length : Int) = wrap64 ((a.length : Int) + (b.length : Int)); rw [rifP_len, wrap_ok (by omega)]; omega) ?_
  refine ev_call rfl ?_
  refine ev_pos (by simp; omega) ?_
  refine ev_call rfl ?_
  refine ev_pos (by simp; omega) ?_
  refine ev_bind (a := true) (implSame_perm (rifP a b) ([] ++ a ++ b) (by rw [rifP_len]; omega) (by simpa using rif_perm a b)) ?_
  refine ev_pos rfl ?_
  refine ev_bind (implHas_ev p d (by omega)) ?_
  have hm := place_mem p d 0 (by omega)
  by_cases hd : d ∈ p
  · obtain ⟨a1, a2, a3⟩ := place_at p d 0 (by omega) hd
    rw [Int.sub_zero] at a3
    refine ev_pos (by simp [hd, a1]) ?_
    refine ev_neg (by omega) ?_
    refine ev_pos a1 ?_
    refine ev_pos (by dsimp only; omega) ?_
    exact ev_some fun _ => by simp [a3]
  · have hn : ¬ placeP p d 0 ≥ 0 := fun h => hd (hm.1 h)
    refine ev_pos (by simp [hd]; omega) ?_
    refine ev_pos (by omega) ?_
    exact Ev.now _
theorem shuf_mid (l0 : List Int) (hl : l0.length ≤ 1048576) : Ev (fun k => laws_FnShuffles.j0 k l0 false) true := by
  obtain ⟨c, k0, e, hc⟩ := drawCut_ev l0 hl
  have hx := cutP_len c k0
  refine Ev.step (fun k => laws_FnShuffles.j0.eq_2 _ _ k) ?_
  refine ev_neg (by simp) ?_
  refine ev_bind e ?_
  refine ev_call (impl_cut c k0 (by omega)) ?_
  refine ev_bind (implSame_perm c (cutP c k0) (by omega) (cut_perm c k0).symm) ?_
  refine ev_pos rfl ?_
  by_cases h0 : k0 ≥ 0
  · refine ev_pos h0 ?_
    by_cases h1 : k0 ≤ (c.length : Int)
    · refine ev_pos h1 ?_
      refine ev_call (a := c) ?_ ?_
      · show impl_Cut.f (cutP c k0) (wrap64 ((c.length : Int) - k0)) = some c
        rw [wrap_ok (by omega), impl_cut _ _ (by omega), cut_back c k0 h0 h1]
      · refine ev_bind (siX_same c (by omega)) ?_
        exact shuf_end l0 hl
    · refine ev_neg h1 ?_
      exact shuf_end l0 hl
  · refine ev_neg h0 ?_
    exact shuf_end l0 hl
theorem FnShuffles : laws_FnShuffles.Pure := by
  intro l0 _ _ _
  refine Ev.rounds ?_
  unfold laws_FnShuffles.f
  refine ev_call (rfl : laws_big.f l0 = some (decide ((l0.length : Int) > 1048576))) ?_
  by_cases hb : (l0.length : Int) > 1048576
  · refine ev_pos (by simp; omega) ?_
    exact Ev.now true
  refine ev_neg (by simp; omega) ?_
  have hl0 : l0.length ≤ 1048576 := by omega
  obtain ⟨l, s, e, hl⟩ := drawShuf_ev l0 hl0
  have full : handP (missFrom [] 0 52) = true := by decide +kernel
  have fulln : (missFrom [] 0 52).length = 52 := by decide +kernel
  refine ev_bind e ?_
  refine ev_bind (implShuf_ev l s (by omega)) ?_
  refine ev_bind (implSame_perm l (shufP l s) (by omega) (shuf_perm l s).symm) ?_
  refine ev_pos rfl ?_
  refine ev_bind implFull_ev ?_
  refine ev_bind (implHand_ev _ (by rw [fulln]; omega)) ?_
  refine ev_pos full ?_
  refine ev_bind implFull_ev ?_
  rw [fulln]
  exact shuf_mid l0 hl0

end Go.Proofs.Ytbjecehiappdead.Pure

/-- The words' fact, under the name by which the row asks for it. -/
theorem Go.Proofs.Ytbjecehiappdead.PrintWords.sized_ints {H : Type} {enc : Go.TypeId × Go.Value → H} {P : Go.Program} {W : Go.World} {base : Nat} {spare : Nat → Bool} {held : Bool} {t e : Go.TypeId} {k : Go.IntKind} {a : Option Go.Addr} {len cap : Nat} {d : Go.DataW H} {ps : List Go.MemPlace} {ts : List Go.TypeId} {ds : List (Go.DataW H)} {j : Nat}
    (hsz : (Go.DataW.weightsEach P ts ds).all (· ≤ Go.reachBytes) = true) (ht : ts[j]? = some t) (hd : ds[j]? = some d) (hu : P.underlying t = some (.slice e)) (he : P.underlying e = some (.int k)) (hc : P.cellsOf e = 1) {B : Nat} (hB : P.bytesOf e = B)
    (h : Go.DataW.Trod enc P W base spare held t (.slice a len cap) d ps) : len * B ≤ 140737488351232 := Go.Proofs.YtbjecehiappdeadW.PrintWords.sized_ints hsz ht hd hu he hc hB h
