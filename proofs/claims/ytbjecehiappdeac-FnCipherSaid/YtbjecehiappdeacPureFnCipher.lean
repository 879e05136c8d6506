/- The law FnCipher returns true at every list of bytes: decryption inverts encryption and encryption inverts decryption. No condition. -/
import Derived.Test.YtbjecehiappdeacQFnCipherx2
import Derived.OpenShut
import Derived.Test.YtbjecehiappdeacWSized
namespace Go.Proofs.Ytbjecehiappdeac.Pure
open Go.RowKit Go.Proofs.Ytbjecehiappdeac.QFnCipher Go.Proofs.YtbjecehiappdeacW.PrintWords Go.Proofs.YtbjecehiappdeacW.PrintLast Go.Proofs.YtbjecehiappdeacW.PrintMore
set_option linter.unusedVariables false
set_option linter.unusedSimpArgs false

/-! ### Words on rounds and on lists -/
theorem ev_bind {α β : Type} {g : Nat → Option α} {f : Nat → α → Option β} {a : α} {r : β} (h : Ev g a) (k : Ev (fun n => f n a) r) : Ev (fun n => (g n).bind (f n)) r := Ev.bind h k
theorem ev_call {α β : Type} {o : Option α} {f : Nat → α → Option β} {a : α} {r : β} (h : o = some a) (k : Ev (fun n => f n a) r) : Ev (fun n => o.bind (f n)) r := by
  subst h; exact k
theorem ev_pos {α : Type} {c : Prop} [Decidable c] {f g : Nat → Option α} {r : α} (h : c) (e : Ev f r) : Ev (fun n => if c then f n else g n) r := by
  obtain ⟨K, hK⟩ := e
  exact ⟨K, fun n hn => by show (if c then f n else g n) = some r; rw [if_pos h]; exact hK n hn⟩
theorem ev_neg {α : Type} {c : Prop} [Decidable c] {f g : Nat → Option α} {r : α} (h : ¬ c) (e : Ev g r) : Ev (fun n => if c then f n else g n) r := by
  obtain ⟨K, hK⟩ := e
  exact ⟨K, fun n hn => by show (if c then f n else g n) = some r; rw [if_neg h]; exact hK n hn⟩
theorem ev_end {α : Type} {g : Nat → Option α} {r : α} (h : ∀ k, g (k + 1) = some r) : Ev g r := Ev.step (f := fun _ => some r) h (Ev.now r)
theorem ev_eq {α : Type} {g : Nat → Option α} {r r' : α} (h : Ev g r) (e : r = r') : Ev g r' := e ▸ h
theorem ev_some {α : Type} {g : Nat → Option α} {r : α} (h : ∀ k, g k = some r) : Ev g r := ⟨0, fun k _ => h k⟩
theorem wrap_ok {n : Int} (h : -9223372036854775808 ≤ n ∧ n ≤ 9223372036854775807) : wrap64 n = n := by unfold wrap64; omega
theorem rd_mid (pre : List Int) (x : Int) (suf : List Int) : rd (pre ++ x :: suf) (pre.length : Int) = x := by simp [rd]
theorem snoc_len (pre : List Int) (x : Int) : (((pre ++ [x]).length : Nat) : Int) = (pre.length : Int) + 1 := by simp
theorem mid_facts {l pre suf : List Int} {x : Int} (h : l = pre ++ x :: suf) (hl : l.length ≤ 35184372088832) :
    (pre.length : Int) < (l.length : Int) ∧ rd l (pre.length : Int) = x ∧ wrap64 ((pre.length : Int) + 1) = (((pre ++ [x]).length : Nat) : Int) ∧ l = (pre ++ [x]) ++ suf := by
  have hlen : l.length = pre.length + (suf.length + 1) := by rw [h]; simp
  refine ⟨by omega, by rw [h]; exact rd_mid pre x suf, ?_, by rw [h]; simp⟩
  rw [snoc_len]
  exact wrap_ok (by omega)
theorem end_facts {l pre : List Int} (h : l = pre ++ []) : l = pre ∧ ¬ (pre.length : Int) < (l.length : Int) := by
  rw [List.append_nil] at h
  subst h
  exact ⟨rfl, by omega⟩
/-- The marks m, m + 1, .. -/
def marks : Int → Nat → List Int
  | _, 0 => []
  | m, n + 1 => m :: marks (m + 1) n
theorem marks_length (m : Int) (n : Nat) : (marks m n).length = n := by
  induction n generalizing m with
  | zero => rfl
  | succ n ih => simp [marks, ih]

theorem tmod_pos_bounds (v m : Int) (hm : 0 < m) (hv : 0 ≤ v) : 0 ≤ Int.tmod v m ∧ Int.tmod v m < m := by
  rw [Int.tmod_eq_emod_of_nonneg hv]
  exact ⟨Int.emod_nonneg v (by omega), Int.emod_lt_of_pos v hm⟩

/-! ### Mod at Modulus -/
def modM (v : Int) : Int := Int.tmod (wrap64 ((Int.tmod v 2147483647) + 2147483647)) 2147483647
def hstep (d v : Int) : Int := Int.tmod (wrap64 ((wrap64 ((wrap64 (d * 1000003)) + modM v)) + 13)) 2147483647
def hashP (l : List Int) : Int := l.foldl hstep 11
theorem tmod_bounds (v m : Int) (hm : 0 < m) : -m < Int.tmod v m ∧ Int.tmod v m < m := by
  have h := Int.natAbs_tmod v m
  have h2 : v.natAbs % m.natAbs < m.natAbs := Nat.mod_lt _ (by omega)
  omega
theorem tmod_nonneg_bounds (v m : Int) (hm : 0 < m) (hv : 0 ≤ v) : 0 ≤ Int.tmod v m ∧ Int.tmod v m < m := by
  rw [Int.tmod_eq_emod_of_nonneg hv]
  exact ⟨Int.emod_nonneg v (by omega), Int.emod_lt_of_pos v hm⟩
theorem modM_range (v : Int) : 0 ≤ modM v ∧ modM v < 2147483647 := by
  unfold modM
  have h := tmod_bounds v 2147483647 (by omega)
  rw [wrap_ok (by omega)]
  exact tmod_nonneg_bounds _ _ (by omega) (by omega)
theorem hstep_plain (d v : Int) (h0 : 0 ≤ d) (h1 : d < 2147483647) : hstep d v = (d * 1000003 + modM v + 13) % 2147483647 := by
  have h := modM_range v
  unfold hstep
  rw [wrap_ok (n := d * 1000003) (by omega), wrap_ok (n := d * 1000003 + modM v) (by omega), wrap_ok (by omega), Int.tmod_eq_emod_of_nonneg (by omega)]
theorem hstep_range (d v : Int) (h0 : 0 ≤ d) (h1 : d < 2147483647) : 0 ≤ hstep d v ∧ hstep d v < 2147483647 := by
  rw [hstep_plain d v h0 h1]
  omega
theorem hash_range_from (l : List Int) : ∀ d, 0 ≤ d → d < 2147483647 → 0 ≤ l.foldl hstep d ∧ l.foldl hstep d < 2147483647 := by
  induction l with
  | nil => intro d h0 h1; exact ⟨h0, h1⟩
  | cons x l ih =>
    intro d h0 h1
    have h := hstep_range d x h0 h1
    exact ih _ h.1 h.2
theorem hash_range (l : List Int) : 0 ≤ hashP l ∧ hashP l < 2147483647 := hash_range_from l 11 (by omega) (by omega)

theorem impl_mod (v : Int) : impl_Mod.f v 2147483647 = some (modM v) := by
  unfold impl_Mod.f impl_InRange.f modM
  simp
theorem implHash_loop (l : List Int) (hl : l.length ≤ 17592186044416) : ∀ (suf pre : List Int) (d : Int), l = pre ++ suf → Ev (fun k => impl_Hash.l0 k d l (l.length : Int) (pre.length : Int)) (suf.foldl hstep d) := by
  intro suf
  induction suf with
  | nil =>
    intro pre d h
    obtain ⟨_, h2⟩ := end_facts h
    refine ev_end fun k => ?_
    simp only [impl_Hash.l0]
    rw [if_neg h2]
    rfl
  | cons x suf ih =>
    intro pre d h
    obtain ⟨h1, h2, h3, h4⟩ := mid_facts h (by omega)
    refine Ev.step (fun k => ?_) (ev_eq (ih (pre ++ [x]) (hstep d x) h4) rfl)
    simp only [impl_Hash.l0]
    rw [if_pos h1, if_pos (by omega), if_pos h1, h2, h3, impl_mod]
    rfl
theorem implHash_ev (l : List Int) (hl : l.length ≤ 17592186044416) : Ev (fun k => impl_Hash.f k l) (hashP l) := implHash_loop l hl l [] 11 rfl

def keyedP (key : Int) (l : List Int) : Int := hashP (key :: (l ++ [key]))
theorem keyed_range (key : Int) (l : List Int) : 0 ≤ keyedP key l ∧ keyedP key l < 2147483647 := hash_range _

theorem implKeyed_ev (key : Int) (l : List Int) (hl : l.length ≤ 17592186044000) : Ev (fun k => impl_KeyedHash.f k key l) (keyedP key l) := by
  unfold impl_KeyedHash.f
  refine ev_call rfl ?_
  refine ev_pos (by simp; omega) ?_
  refine ev_call rfl ?_
  refine ev_pos (by simp; omega) ?_
  refine ev_bind (implHash_ev _ (by simp; omega)) ?_
  exact ev_some fun _ => by simp [keyedP]

/-! ### The stream cipher -/
def shP (key sgn : Int) : Int → List Int → List Int
  | _, [] => []
  | i, x :: s => (x + sgn * (keyedP key [i] % 256)) % 256 :: shP key sgn (i + 1) s
theorem shP_len (key sgn : Int) (l : List Int) : ∀ i, (shP key sgn i l).length = l.length := by
  induction l with
  | nil => intro i; rfl
  | cons x l ih => intro i; simp [shP, ih]
theorem keyed_tmod (key i : Int) : Int.tmod (keyedP key [i]) 256 = keyedP key [i] % 256 := Int.tmod_eq_emod_of_nonneg (keyed_range key [i]).1
theorem keyed_byte (key i : Int) : 0 ≤ keyedP key [i] % 256 ∧ keyedP key [i] % 256 < 256 := by omega
theorem wf_byte {l : List Int} (h : ∀ x ∈ l, (Lit.int .u8 x).wf = true) : ∀ x ∈ l, 0 ≤ x ∧ x ≤ 255 := fun x hx => bounds_u8 (h x hx)

theorem shift_loop (key sgn : Int) (l : List Int) (hl : l.length ≤ 17592186044416) (hs : sgn = 1 ∨ sgn = -1) (hw : ∀ x ∈ l, 0 ≤ x ∧ x ≤ 255) : ∀ (suf pre acc : List Int), l = pre ++ suf → acc.length = pre.length → Ev (fun k => impl_shifted.l0 k key sgn acc l (l.length : Int) (pre.length : Int)) (acc ++ shP key sgn (pre.length : Int) suf) := by
  intro suf
  induction suf with
  | nil =>
    intro pre acc h hacc
    obtain ⟨_, h2⟩ := end_facts h
    refine ev_end fun k => ?_
    simp only [impl_shifted.l0]
    rw [if_neg h2]
    simp [shP]
  | cons x suf ih =>
    intro pre acc h hacc
    obtain ⟨h1, h2, h3, h4⟩ := mid_facts h (by omega)
    have hx := hw x (by rw [h]; simp)
    have hk := keyed_byte key (pre.length : Int)
    refine Ev.step (f := fun k => (impl_KeyedHash.f k key [(pre.length : Int)]).bind fun t => impl_shifted.l0 k key sgn (acc ++ [(wrap64 (x + wrap64 (sgn * Int.tmod t 256))) % 256]) l (l.length : Int) (((pre ++ [x]).length : Nat) : Int)) (fun k => ?_) ?_
    · simp only [impl_shifted.l0]
      rw [if_pos h1, if_pos (by omega), if_pos h1, h2, h3, wrap_ok (n := x) (by omega)]
      simp only [if_pos (show acc.length < 140737488355328 by omega)]
    · refine ev_bind (implKeyed_ev key _ (by simp)) ?_
      rw [keyed_tmod]
      have e : wrap64 (x + wrap64 (sgn * (keyedP key [(pre.length : Int)] % 256))) = x + sgn * (keyedP key [(pre.length : Int)] % 256) := by
        rcases hs with rfl | rfl
        · rw [wrap_ok (n := 1 * _) (by omega), wrap_ok (by omega)]
        · rw [wrap_ok (n := -1 * _) (by omega), wrap_ok (by omega)]
      rw [e]
      refine ev_eq (ih (pre ++ [x]) _ h4 (by simp [hacc])) ?_
      rw [snoc_len]
      simp [shP]
theorem shift_ev (key sgn : Int) (l : List Int) (hl : l.length ≤ 17592186044416) (hs : sgn = 1 ∨ sgn = -1) (hw : ∀ x ∈ l, 0 ≤ x ∧ x ≤ 255) : Ev (fun k => impl_shifted.f k key l sgn) (shP key sgn 0 l) := shift_loop key sgn l hl hs hw l [] [] rfl rfl

theorem implEncrypt_ev (key : Int) (l : List Int) (hl : l.length ≤ 17592186044416) (hw : ∀ x ∈ l, 0 ≤ x ∧ x ≤ 255) : Ev (fun k => impl_Encrypt.f k key l) (shP key (1) 0 l) := by
  unfold impl_Encrypt.f
  refine ev_bind (shift_ev key (1) l hl (by simp) hw) ?_
  exact Ev.now _

theorem implDecrypt_ev (key : Int) (l : List Int) (hl : l.length ≤ 17592186044416) (hw : ∀ x ∈ l, 0 ≤ x ∧ x ≤ 255) : Ev (fun k => impl_Decrypt.f k key l) (shP key (-1) 0 l) := by
  unfold impl_Decrypt.f
  refine ev_bind (shift_ev key (-1) l hl (by simp) hw) ?_
  exact Ev.now _

/-! ### The cursor of the draws -/
theorem and255_range (x : Int) : 0 ≤ Go.bits .and .i64 x 255 ∧ Go.bits .and .i64 x 255 ≤ 255 := by
  have h : ∀ a : BitVec 64, (a &&& (255#64)).toNat ≤ 255 := fun a => by rw [BitVec.toNat_and]; exact Nat.and_le_right
  have h2 := h (BitVec.ofInt 64 x)
  have e : Go.bits .and .i64 x 255 = IntKind.i64.wrap (((BitVec.ofInt 64 x &&& (255#64)).toNat : Nat) : Int) := rfl
  rw [e, IntKind.wrap_i64]
  omega
theorem byte_some (b : List Int) (i h : Int) (hb : b.length ≤ 1048576) (hi : 0 ≤ i) : ∃ x i' h', spec_l1Byte.f b i h = some (x, i', h') ∧ 0 ≤ x ∧ x ≤ 255 ∧ 0 ≤ i' := by
  unfold spec_l1Byte.f
  by_cases h1 : i < (b.length : Int)
  · rw [if_pos h1, if_pos hi]
    exact ⟨_, _, _, rfl, (and255_range _).1, (and255_range _).2, by rw [wrap_ok] <;> omega⟩
  · rw [if_neg h1]
    exact ⟨_, _, _, rfl, (and255_range _).1, (and255_range _).2, hi⟩
theorem below_some (b : List Int) (i h n : Int) (hb : b.length ≤ 1048576) (hi : 0 ≤ i) : ∃ x i' h', spec_l1Below.f b i h n = some (x, i', h') ∧ 0 ≤ x ∧ (0 < n → x < n) ∧ (n ≤ 0 → x = 0) ∧ 0 ≤ i' := by
  unfold spec_l1Below.f
  by_cases h1 : n ≤ 0
  · rw [if_pos h1]
    exact ⟨_, _, _, rfl, by omega, fun h => by omega, fun _ => rfl, hi⟩
  · rw [if_neg h1]
    have h0 : ¬ n = 0 := by omega
    by_cases h2 : n ≤ 256
    · rw [if_pos h2]
      obtain ⟨x, i1, k1, e1, x0, x1, j1⟩ := byte_some b i h hb hi
      rw [e1]
      simp only [Option.bind_some, if_neg h0]
      have ht := tmod_pos_bounds x n (by omega) x0
      exact ⟨_, _, _, rfl, ht.1, fun _ => ht.2, fun h => by omega, j1⟩
    · rw [if_neg h2]
      obtain ⟨x, i1, k1, e1, x0, x1, j1⟩ := byte_some b i h hb hi
      obtain ⟨y, i2, k2, e2, y0, y1, j2⟩ := byte_some b i1 k1 hb j1
      obtain ⟨z, i3, k3, e3, z0, z1, j3⟩ := byte_some b i2 k2 hb j2
      rw [e1]
      simp only [Option.bind_some, e2, e3, if_neg h0]
      rw [wrap_ok (n := x * 65536) (by omega), wrap_ok (n := y * 256) (by omega), wrap_ok (n := x * 65536 + y * 256) (by omega), wrap_ok (by omega)]
      have ht := tmod_pos_bounds (x * 65536 + y * 256 + z) n (by omega) (by omega)
      exact ⟨_, _, _, rfl, ht.1, fun _ => ht.2, fun h => by omega, j3⟩
theorem once_some (b : List Int) (i h n : Int) (hb : b.length ≤ 1048576) (hi : 0 ≤ i) : ∃ t i' h', spec_l1Once.f b i h n = some (t, i', h') ∧ 0 ≤ i' := by
  obtain ⟨x, i1, k1, e1, _, _, _, j1⟩ := below_some b i h n hb hi
  unfold spec_l1Once.f
  rw [e1]
  exact ⟨_, _, _, rfl, j1⟩
theorem pick_some (b : List Int) (i h : Int) (l : List Int) (hb : b.length ≤ 1048576) (hi : 0 ≤ i) (hl : 0 < l.length) : ∃ x i' h', spec_l1Int.f b i h l = some (x, i', h') ∧ x ∈ l ∧ 0 ≤ i' := by
  obtain ⟨x, i1, k1, e1, x0, x1, _, j1⟩ := below_some b i h (l.length : Int) hb hi
  have x2 := x1 (by omega)
  unfold spec_l1Int.f
  rw [e1]
  simp only [Option.bind_some, if_pos x0, if_pos x2]
  refine ⟨_, _, _, rfl, ?_, j1⟩
  unfold rd
  rw [List.getD_eq_getElem?_getD, List.getElem?_eq_getElem (by omega)]
  exact List.getElem_mem ..

theorem new_loop (l : List Int) (hl : l.length ≤ 1048576) : ∀ (n : Nat) (i h : Int), 0 ≤ i → (4000 : Int) - i ≤ n → ∃ h', Ev (fun k => spec_l1New.l0 k l h i) (l, 0, h') := by
  intro n
  induction n with
  | zero =>
    intro i h h0 h1
    refine ⟨h, ev_end fun k => ?_⟩
    simp only [spec_l1New.l0]
    by_cases h2 : i < (l.length : Int)
    · rw [if_pos h2, if_neg (by omega)]
    · rw [if_neg h2]
  | succ n ih =>
    intro i h h0 h1
    by_cases h2 : i < (l.length : Int)
    · by_cases h3 : i < 4000
      · obtain ⟨h', e⟩ := ih (i + 1) (Go.bits .and .i64 (wrap64 ((wrap64 ((wrap64 (h * 137)) + (wrap64 (rd l i)))) + 11)) 1073741823) (by omega) (by omega)
        refine ⟨h', Ev.step (fun k => ?_) e⟩
        simp only [spec_l1New.l0]
        rw [if_pos h2, if_pos h3, if_pos h0, wrap_ok (n := i + 1) (by omega)]
      · refine ⟨h, ev_end fun k => ?_⟩
        simp only [spec_l1New.l0]
        rw [if_pos h2, if_neg h3]
    · refine ⟨h, ev_end fun k => ?_⟩
      simp only [spec_l1New.l0]
      rw [if_neg h2]
theorem new_ev (l : List Int) (hl : l.length ≤ 1048576) : ∃ h, Ev (fun k => spec_l1New.f k l) (l, 0, h) := new_loop l hl 4000 0 _ (by omega) (by omega)

theorem bytes_loop (b : List Int) (n : Int) (hb : b.length ≤ 1048576) (hn : n ≤ 1048576) : ∀ (m : Nat) (j i h : Int) (acc : List Int), 0 ≤ j → j + m = n → 0 ≤ i → acc.length = j → (∀ x ∈ acc, 0 ≤ x ∧ x ≤ 255) → ∃ r i' h', Ev (fun k => spec_l1Bytes.l0 k n acc j b i h) (r, i', h') ∧ (r.length : Int) = n ∧ (∀ x ∈ r, 0 ≤ x ∧ x ≤ 255) ∧ 0 ≤ i' := by
  intro m
  induction m with
  | zero =>
    intro j i h acc hj hm hi ha hw
    refine ⟨acc, i, h, ev_end fun k => ?_, by omega, hw, hi⟩
    simp only [spec_l1Bytes.l0]
    rw [if_neg (by omega)]
  | succ m ih =>
    intro j i h acc hj hm hi ha hw
    obtain ⟨x, i1, k1, e1, x0, x1, j1⟩ := byte_some b i h hb hi
    obtain ⟨r, i2, k2, e2, h2⟩ := ih (j + 1) i1 k1 (acc ++ [x]) (by omega) (by omega) j1 (by simp; omega) (by
      intro y hy
      rcases List.mem_append.1 hy with h | h
      · exact hw y h
      · simp at h; omega)
    refine ⟨r, i2, k2, Ev.step (fun k => ?_) e2, h2⟩
    simp only [spec_l1Bytes.l0]
    rw [if_pos (by omega), e1]
    simp only [Option.bind_some]
    rw [if_pos (by omega), wrap_ok (n := j + 1) (by omega), Int.emod_eq_of_lt x0 (by omega)]
theorem bytes_ev (b : List Int) (i h n : Int) (hb : b.length ≤ 1048576) (h0 : 0 ≤ n) (hn : n ≤ 1048576) (hi : 0 ≤ i) : ∃ r i' h', Ev (fun k => spec_l1Bytes.f k b i h n) (r, i', h') ∧ (r.length : Int) = n ∧ (∀ x ∈ r, 0 ≤ x ∧ x ≤ 255) ∧ 0 ≤ i' := bytes_loop b n hb hn n.toNat 0 i h [] (by omega) (by omega) hi rfl (by simp)

theorem word_some (b : List Int) (i h : Int) (hb : b.length ≤ 1048576) (hi : 0 ≤ i) : ∃ v i' h', spec_l3Word.f b i h = some (v, i', h') ∧ -1 ≤ v ∧ v ≤ 2147483648 ∧ 0 ≤ i' := by
  unfold spec_l3Word.f
  obtain ⟨t, i1, k1, e1, j1⟩ := once_some b i h 10 hb hi
  rw [e1]
  simp only [Option.bind_some]
  by_cases ht : t = true
  · rw [if_pos ht]
    obtain ⟨x, i2, k2, e2, hx, j2⟩ := pick_some b i1 k1 [(-1), 2147483647, 2147483648] hb j1 (by simp)
    rw [e2]
    refine ⟨_, _, _, rfl, ?_, ?_, j2⟩ <;> (simp at hx; rcases hx with rfl | rfl | rfl <;> simp)
  · rw [if_neg ht]
    obtain ⟨t2, i2, k2, e2, j2⟩ := once_some b i1 k1 4 hb j1
    rw [e2]
    simp only [Option.bind_some]
    by_cases ht2 : t2 = true
    · rw [if_pos ht2]
      obtain ⟨x, i3, k3, e3, hx, j3⟩ := pick_some b i2 k2 [0, 1, 2147483646] hb j2 (by simp)
      rw [e3]
      refine ⟨_, _, _, rfl, ?_, ?_, j3⟩ <;> (simp at hx; rcases hx with rfl | rfl | rfl <;> simp)
    · rw [if_neg ht2]
      obtain ⟨x, i3, k3, e3, x0, x1, _, j3⟩ := below_some b i2 k2 1000000 hb j2
      obtain ⟨y, i4, k4, e4, y0, y1, _, j4⟩ := below_some b i3 k3 2000 hb j3
      have x2 := x1 (by omega)
      have y2 := y1 (by omega)
      rw [e3]
      simp only [Option.bind_some, e4]
      have hm : 0 ≤ x * y := Int.mul_nonneg x0 y0
      have hm2 : x * y ≤ 1000000 * 2000 := Int.mul_le_mul (by omega) (by omega) y0 (by omega)
      refine ⟨_, _, _, rfl, ?_, ?_, j4⟩ <;> (rw [wrap_ok] <;> omega)

theorem sbX_loop (a b : List Int) (hl : a.length ≤ 35184372088832) : ∀ (s1 s2 p1 p2 : List Int), a = p1 ++ s1 → b = p2 ++ s2 → p1.length = p2.length → s1.length = s2.length → Ev (fun k => laws_sameBytes.l0 k a b (p1.length : Int)) (decide (s1 = s2)) := by
  intro s1
  induction s1 with
  | nil =>
    intro s2 p1 p2 ha hb hp hs
    obtain rfl : s2 = [] := List.eq_nil_of_length_eq_zero hs.symm
    obtain ⟨_, h2⟩ := end_facts ha
    refine ev_end fun k => ?_
    simp only [laws_sameBytes.l0]
    rw [if_neg h2]
    simp
  | cons x s1 ih =>
    intro s2 p1 p2 ha hb hp hs
    cases s2 with
    | nil => simp at hs
    | cons y s2 =>
    obtain ⟨h1, h2, h3, h4⟩ := mid_facts ha hl
    have hb1 : b.length = p2.length + (s2.length + 1) := by rw [hb]; simp
    have hb2 : rd b (p1.length : Int) = y := by rw [hp, hb]; exact rd_mid p2 y s2
    have hb3 : b = (p2 ++ [y]) ++ s2 := by rw [hb]; simp
    by_cases hxy : x = y
    · refine Ev.step (fun k => ?_) (ev_eq (ih s2 (p1 ++ [x]) (p2 ++ [y]) h4 hb3 (by simp [hp]) (by simpa using hs)) (by simp [hxy]))
      simp only [laws_sameBytes.l0]
      rw [if_pos h1, if_pos (by omega), if_pos (by omega), h2, hb2, if_pos hxy, h3]
    · refine ev_end fun k => ?_
      simp only [laws_sameBytes.l0]
      rw [if_pos h1, if_pos (by omega), if_pos (by omega), h2, hb2, if_neg hxy]
      simp [hxy]
theorem sbX_ev (a b : List Int) (hl : a.length ≤ 35184372088832) : Ev (fun k => laws_sameBytes.f k a b) (decide (a = b)) := by
  by_cases h : a.length = b.length
  · refine Ev.congr (fun k => ?_) (sbX_loop a b hl a b [] [] rfl rfl rfl h)
    unfold laws_sameBytes.f
    rw [if_pos (by omega)]
    rfl
  · refine ev_some fun k => ?_
    unfold laws_sameBytes.f
    rw [if_neg (by omega)]
    have : a ≠ b := fun e => h (by rw [e])
    simp [this]
theorem sbX_same (a : List Int) (hl : a.length ≤ 35184372088832) : Ev (fun k => laws_sameBytes.f k a a) true := ev_eq (sbX_ev a a hl) (by simp)

theorem drawEnc_ev (l : List Int) (hl : l.length ≤ 1048576) : ∃ key b, Ev (fun k => spec_DrawEncrypt.f k l) (key, b) ∧ b.length ≤ 8 ∧ ∀ x ∈ b, 0 ≤ x ∧ x ≤ 255 := by
  obtain ⟨h, e⟩ := new_ev l hl
  obtain ⟨v, i1, k1, e1, _, _, j1⟩ := word_some l 0 h hl (by omega)
  obtain ⟨n, i2, k2, e2, n0, n1, _, j2⟩ := below_some l i1 k1 8 hl j1
  have n2 := n1 (by omega)
  obtain ⟨r, i3, k3, e3, hr, hw, j3⟩ := bytes_ev l i2 k2 n hl n0 (by omega) j2
  refine ⟨v, r, ?_, by omega, hw⟩
  unfold spec_DrawEncrypt.f
  refine ev_bind e ?_
  refine ev_call e1 ?_
  refine ev_call e2 ?_
  refine ev_bind e3 ?_
  exact Ev.now _
theorem shP_range (key sgn : Int) (l : List Int) : ∀ i, ∀ x ∈ shP key sgn i l, 0 ≤ x ∧ x ≤ 255 := by
  induction l with
  | nil => intro i x h; simp [shP] at h
  | cons y l ih =>
    intro i x h
    simp only [shP, List.mem_cons] at h
    rcases h with rfl | h
    · omega
    · exact ih _ x h
theorem shP_back (key : Int) (l : List Int) (hw : ∀ x ∈ l, 0 ≤ x ∧ x ≤ 255) : ∀ i, shP key (-1) i (shP key 1 i l) = l := by
  induction l with
  | nil => intro i; rfl
  | cons y l ih =>
    intro i
    have hy := hw y (by simp)
    simp only [shP]
    rw [ih (fun x hx => hw x (by simp [hx]))]
    congr 1
    omega
theorem shP_forth (key : Int) (l : List Int) (hw : ∀ x ∈ l, 0 ≤ x ∧ x ≤ 255) : ∀ i, shP key 1 i (shP key (-1) i l) = l := by
  induction l with
  | nil => intro i; rfl
  | cons y l ih =>
    intro i
    have hy := hw y (by simp)
    simp only [shP]
    rw [ih (fun x hx => hw x (by simp [hx]))]
    congr 1
    omega
theorem FnCipher : laws_FnCipher.Pure := by
  intro l0 _ _ _
  refine Ev.rounds ?_
  unfold laws_FnCipher.f
  by_cases hb : (l0.length : Int) > 1048576
  · refine ev_call (rfl : laws_big.f l0 = some (decide ((l0.length : Int) > 1048576))) ?_
    refine ev_pos (by simp; omega) ?_
    exact Ev.now true
  · refine ev_call (rfl : laws_big.f l0 = some (decide ((l0.length : Int) > 1048576))) ?_
    refine ev_neg (by simp; omega) ?_
    obtain ⟨key, b, e, hl, hw⟩ := drawEnc_ev l0 (by omega)
    have l1 := shP_len key 1 b 0
    have l2 := shP_len key (-1) b 0
    refine ev_bind e ?_
    refine ev_bind (implEncrypt_ev key b (by omega) hw) ?_
    refine ev_bind (implDecrypt_ev key _ (by omega) (shP_range key 1 b 0)) ?_
    rw [shP_back key b hw]
    refine ev_bind (sbX_same b (by omega)) ?_
    refine ev_pos rfl ?_
    refine ev_bind (implDecrypt_ev key b (by omega) hw) ?_
    refine ev_bind (implEncrypt_ev key _ (by omega) (shP_range key (-1) b 0)) ?_
    rw [shP_forth key b hw]
    refine ev_bind (sbX_same b (by omega)) ?_
    refine ev_pos rfl ?_
    refine ev_bind (implEncrypt_ev key b (by omega) hw) ?_
    refine ev_some fun _ => ?_
    simp [l1]

end Go.Proofs.Ytbjecehiappdeac.Pure

/-- The words' fact, under the name by which the row asks for it. -/
theorem Go.Proofs.Ytbjecehiappdeac.PrintWords.sized_ints {H : Type} {enc : Go.TypeId × Go.Value → H} {P : Go.Program} {W : Go.World} {base : Nat} {spare : Nat → Bool} {held : Bool} {t e : Go.TypeId} {k : Go.IntKind} {a : Option Go.Addr} {len cap : Nat} {d : Go.DataW H} {ps : List Go.MemPlace} {ts : List Go.TypeId} {ds : List (Go.DataW H)} {j : Nat}
    (hsz : (Go.DataW.weightsEach P ts ds).all (· ≤ Go.reachBytes) = true) (ht : ts[j]? = some t) (hd : ds[j]? = some d) (hu : P.underlying t = some (.slice e)) (he : P.underlying e = some (.int k)) (hc : P.cellsOf e = 1) {B : Nat} (hB : P.bytesOf e = B)
    (h : Go.DataW.Trod enc P W base spare held t (.slice a len cap) d ps) : len * B ≤ 140737488351232 := Go.Proofs.YtbjecehiappdeacW.PrintWords.sized_ints hsz ht hd hu he hc hB h
