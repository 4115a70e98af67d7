/- Plain laws of the printed functions of this seat. Conditions: none beyond each theorem's own. -/
import Derived.Test.YtahajbmidocihaaPa4
set_option linter.unusedVariables false
set_option linter.unusedSimpArgs false
namespace Go.Ev

theorem w64 {n : Int} (h0 : -9223372036854775808 ≤ n) (h1 : n < 9223372036854775808) : IntKind.i64.wrap n = n := by
  simp [IntKind.wrap, IntKind.bits, IntKind.signed]; split <;> omega
theorem wu64 {n : Int} (h0 : 0 ≤ n) (h1 : n < 18446744073709551616) : IntKind.u64.wrap n = n := by
  simp [IntKind.wrap, IntKind.bits, IntKind.signed]; omega
theorem wu8 (n : Int) : IntKind.u8.wrap n = n % 256 := by simp [IntKind.wrap, IntKind.bits, IntKind.signed]
theorem at_nat {α : Type} (xs : List α) (i : Nat) : at? xs (i : Int) = xs[i]? := by simp [at?]

def Bs (l : List Int) : Prop := ∀ x ∈ l, 0 ≤ x ∧ x < 256
theorem Bs.of {l : List Int} (h : ∀ x ∈ l, (Lit.int .u8 x).wf = true) : Bs l := by
  intro x hx
  have := h x hx
  simp [Lit.wf, IntKind.min, IntKind.max, IntKind.signed, IntKind.bits] at this
  omega

theorem drop_cons {α : Type} {l : List α} {i : Nat} {x : α} (h : l[i]? = some x) : l.drop i = x :: l.drop (i + 1) := by
  have hi := lt_of_get h
  rw [List.getElem?_eq_getElem hi] at h
  cases h
  exact List.drop_eq_getElem_cons hi

/-! slices.Equal -/
theorem F12_1_spec (k : Nat) (a b : List Int) (hl : a.length = b.length) (hb : a.length < 4611686018427387904) : ∀ (n i : Nat), i ≤ a.length → a.length - i < n →
    F12_1 k a b (a.length : Int) n (i : Int) = some (if a.drop i = b.drop i then .inr () else .inl false)
  | 0, i, _, h => by omega
  | n + 1, i, hi, h => by
    rw [F12_1]
    by_cases hlt : i < a.length
    · have ha : a[i]? = some a[i] := List.getElem?_eq_getElem hlt
      have hb' : b[i]? = some (b[i]'(by omega)) := List.getElem?_eq_getElem (by omega)
      rw [at_nat, at_nat, ha, hb', drop_cons ha, drop_cons hb']
      have : decide ((i : Int) < (a.length : Int)) = true := by simpa using hlt
      simp only [this, br, bnd, Option.bind_some]
      by_cases he : a[i] = b[i]'(by omega)
      · have e1 : (a[i] != b[i]'(by omega)) = false := by simp [he]
        rw [e1]
        simp only []
        rw [show IntKind.i64.wrap ((i : Int) + 1) = ((i + 1 : Nat) : Int) by rw [w64 (by omega) (by omega)]; simp]
        rw [F12_1_spec k a b hl hb n (i + 1) (by omega) (by omega), he]
        simp only [List.cons.injEq, true_and]
      · have e1 : (a[i] != b[i]'(by omega)) = true := by simp [he]
        rw [e1]
        simp only [List.cons.injEq, he, false_and, if_false]
    · have : decide ((i : Int) < (a.length : Int)) = false := by simpa using hlt
      simp only [this, br]
      rw [List.drop_eq_nil_of_le (by omega), List.drop_eq_nil_of_le (by omega)]
      simp

theorem F12_spec (k : Nat) (a b : List Int) (hb : a.length < 4611686018427387904) (hk : a.length < k) : F12 k a b = some (decide (a = b)) := by
  unfold F12
  by_cases hl : a.length = b.length
  · have e1 : (((a.length : Int)) != (b.length : Int)) = false := by simp [hl]
    rw [e1]
    simp only [br]
    have := F12_1_spec k a b hl hb k 0 (by omega) (by omega)
    simp only [List.drop_zero, Int.cast_ofNat_Int] at this
    rw [this]
    by_cases he : a = b <;> simp [bnd, alt, he]
  · have e1 : (((a.length : Int)) != (b.length : Int)) = true := by simpa using (by omega : ¬ (a.length : Int) = (b.length : Int))
    rw [e1]
    have : a ≠ b := fun e => hl (by rw [e])
    simp [br, this]

/-! Sum -/
def sumF : List Int → Int → Int → Int × Int
  | [], x, y => (x, y)
  | b :: l, x, y => sumF l ((x + b) % 4294967291) ((y + (x + b) % 4294967291) % 4294967291)

theorem F21_1_spec (k : Nat) (l : List Int) (hB : Bs l) (hb : l.length < 4611686018427387904) : ∀ (n i : Nat) (x y : Int), i ≤ l.length → l.length - i < n → 0 ≤ x → x < 4294967291 → 0 ≤ y → y < 4294967291 →
    F21_1 k l (l.length : Int) n x y (i : Int) = some (sumF (l.drop i) x y)
  | 0, i, x, y, _, h, _, _, _, _ => by omega
  | n + 1, i, x, y, hi, h, x0, x1, y0, y1 => by
    rw [F21_1]
    by_cases hlt : i < l.length
    · have ha : l[i]? = some l[i] := List.getElem?_eq_getElem hlt
      obtain ⟨c0, c1⟩ := hB l[i] (by simp)
      rw [at_nat, ha, drop_cons ha]
      have : decide ((i : Int) < (l.length : Int)) = true := by simpa using hlt
      simp only [this, br, bnd, Option.bind_some]
      rw [show IntKind.i64.wrap ((i : Int) + 1) = ((i + 1 : Nat) : Int) by rw [w64 (by omega) (by omega)]; simp]
      rw [wu64 (n := l[i]) (by omega) (by omega), wu64 (n := x + l[i]) (by omega) (by omega)]
      have e : Int.tmod (x + l[i]) 4294967291 = (x + l[i]) % 4294967291 := by rw [Int.tmod_eq_emod_of_nonneg (by omega)]
      rw [e]
      have e0 : 0 ≤ (x + l[i]) % 4294967291 := by omega
      have e1 : (x + l[i]) % 4294967291 < 4294967291 := by omega
      rw [wu64 (n := y + (x + l[i]) % 4294967291) (by omega) (by omega)]
      rw [Int.tmod_eq_emod_of_nonneg (by omega)]
      rw [F21_1_spec k l hB hb n (i + 1) _ _ (by omega) (by omega) e0 e1 (by omega) (by omega)]
      rfl
    · have : decide ((i : Int) < (l.length : Int)) = false := by simpa using hlt
      simp only [this, br]
      rw [List.drop_eq_nil_of_le (by omega)]
      rfl

theorem sumF_bd : ∀ (l : List Int) (x y : Int), 0 ≤ x → x < 4294967291 → 0 ≤ y → y < 4294967291 → 0 ≤ (sumF l x y).1 ∧ (sumF l x y).1 < 4294967291 ∧ 0 ≤ (sumF l x y).2 ∧ (sumF l x y).2 < 4294967291
  | [], x, y, a, b, c, d => ⟨a, b, c, d⟩
  | v :: l, x, y, a, b, c, d => sumF_bd l _ _ (by omega) (by omega) (by omega) (by omega)

def sm (l : List Int) : Int := (sumF l 1 0).2 * 4294967296 + (sumF l 1 0).1

theorem F21_spec (k : Nat) (l : List Int) (hB : Bs l) (hb : l.length < 4611686018427387904) (hk : l.length < k) : F21 k l = some (sm l) := by
  unfold F21
  have := F21_1_spec k l hB hb k 0 1 0 (by omega) (by omega) (by omega) (by omega) (by omega) (by omega)
  rw [show ((0 : Nat) : Int) = 0 from rfl] at this
  rw [this]
  obtain ⟨a, b, c, d⟩ := sumF_bd l 1 0 (by omega) (by omega) (by omega) (by omega)
  simp only [bnd, Option.bind_some, List.drop_zero, shlI]
  have e : (min (Int.toNat 32) IntKind.u64.bits) = 32 := by decide
  rw [e, wu64 (n := (sumF l 1 0).2 * 2 ^ 32) (by omega) (by omega), wu64 (by omega) (by omega)]
  simp [sm]

/-! Num -/
def leB : Nat → Int → List Int
  | 0, _ => []
  | s + 1, n => n % 256 :: leB s (n / 256)
theorem leB_length : ∀ (s : Nat) (n : Int), (leB s n).length = s
  | 0, _ => rfl
  | s + 1, n => by simp [leB, leB_length s]
theorem leB_Bs : ∀ (s : Nat) (n : Int), Bs (leB s n)
  | 0, n => by simp [leB, Bs]
  | s + 1, n => by
    intro x hx
    simp only [leB, List.mem_cons] at hx
    rcases hx with rfl | hx
    · omega
    · exact leB_Bs s _ x hx

theorem shr8 {n : Int} (h : 0 ≤ n) : shrI .u64 n 8 = n / 256 := by
  have e : (min (Int.toNat 8) IntKind.u64.bits) = 8 := by decide
  simp only [shrI, e]
  rw [Int.fdiv_eq_ediv_of_nonneg _ (by decide)]
  rfl

theorem F15_2_spec (k : Nat) (x1 : Int) (x12 : List Int) (x13 x14 : Int) (s : Nat) (hs : s ≤ 8) : ∀ (n i : Nat) (out : List Int) (v : Int), i ≤ s → s - i < n → 0 ≤ v → out.length + (s - i) ≤ 140737488355328 →
    F15_2 k x1 x12 x13 x14 (s : Int) n out v (i : Int) = some (out ++ leB (s - i) v)
  | 0, i, out, v, _, h, _, _ => by omega
  | n + 1, i, out, v, hi, h, hv, hf => by
    rw [F15_2]
    by_cases hlt : i < s
    · have : decide ((i : Int) < (s : Int)) = true := by simpa using hlt
      simp only [this, br, req]
      rw [if_pos (by simp only [fits, List.length_cons, List.length_nil]; omega), shr8 hv, wu8, show IntKind.i64.wrap ((i : Int) + 1) = ((i + 1 : Nat) : Int) by rw [w64 (by omega) (by omega)]; simp]
      rw [F15_2_spec k x1 x12 x13 x14 s hs n (i + 1) _ _ (by omega) (by omega) (by omega) (by simp; omega)]
      rw [show s - i = (s - (i + 1)) + 1 by omega]
      simp [leB]
    · have : decide ((i : Int) < (s : Int)) = false := by simpa using hlt
      simp only [this, br]
      rw [show s - i = 0 by omega]
      simp [leB]

def clampS (size : Int) : Nat := (min (max size 1) 8).toNat
theorem F40_spec (size : Int) : F40 size = some ((clampS size : Nat) : Int) := by
  simp only [F40, mnI, mxI, clampS]
  congr 1
  split <;> split <;> omega
theorem clampS_le (size : Int) : clampS size ≤ 8 := by simp only [clampS]; omega

def numsB (s : Nat) (L : List Int) : List Int := L.flatMap (leB s)

theorem F15_1_spec (k : Nat) (x1 : Int) (L : List Int) (hL : ∀ x ∈ L, 0 ≤ x) (hk : 8 < k) (hb : L.length < 4611686018427387904) : ∀ (n i : Nat) (out : List Int), i ≤ L.length → L.length - i < n → out.length + 8 * (L.length - i) ≤ 140737488355328 →
    F15_1 k x1 L (L.length : Int) n out (i : Int) = some (out ++ numsB (clampS x1) (L.drop i))
  | 0, i, out, _, h, _ => by omega
  | n + 1, i, out, hi, h, hf => by
    rw [F15_1]
    by_cases hlt : i < L.length
    · have ha : L[i]? = some L[i] := List.getElem?_eq_getElem hlt
      rw [at_nat, ha, drop_cons ha]
      have : decide ((i : Int) < (L.length : Int)) = true := by simpa using hlt
      simp only [this, br, bnd, Option.bind_some, F40_spec]
      have c := clampS_le x1
      have q := F15_2_spec k x1 L (L.length : Int) (i : Int) (clampS x1) c k 0 out L[i] (by omega) (by omega) (hL _ (by simp)) (by omega)
      simp only [Nat.sub_zero, Int.cast_ofNat_Int] at q
      rw [q]
      simp only [Option.bind_some]
      rw [show IntKind.i64.wrap ((i : Int) + 1) = ((i + 1 : Nat) : Int) by rw [w64 (by omega) (by omega)]; simp]
      rw [F15_1_spec k x1 L hL hk hb n (i + 1) _ (by omega) (by omega) (by simp [leB_length]; omega)]
      simp only [numsB, List.flatMap_cons, List.append_assoc]
    · have : decide ((i : Int) < (L.length : Int)) = false := by simpa using hlt
      simp only [this, br]
      rw [List.drop_eq_nil_of_le (by omega)]
      simp [numsB]

theorem F15_spec (k : Nat) (b : List Int) (size : Int) (L : List Int) (hL : ∀ x ∈ L, 0 ≤ x) (hk : 8 < k) (hk2 : L.length < k) (hb : L.length < 4611686018427387904) (hf : b.length + 8 * L.length ≤ 140737488355328) :
    F15 k b size L = some (b ++ numsB (clampS size) L) := by
  unfold F15 F39
  have q := F15_1_spec k size L hL hk hb k 0 b (by omega) (by omega) (by omega)
  simp only [List.drop_zero, Int.cast_ofNat_Int] at q
  simp [bnd, q]

def sealF (l : List Int) : List Int := l ++ leB 8 (sm l)
theorem sm_bd (l : List Int) : 0 ≤ sm l ∧ sm l < 18446744073709551616 := by
  obtain ⟨a, b, c, d⟩ := sumF_bd l 1 0 (by omega) (by omega) (by omega) (by omega)
  simp only [sm]; omega

theorem clamp8 : clampS 8 = 8 := by decide
theorem nums1 (s : Nat) (n : Int) : numsB s [n] = leB s n := by simp [numsB]

theorem F10_spec (k : Nat) (l : List Int) (hB : Bs l) (hf : l.length + 8 ≤ 140737488355328) (hk : l.length < k) (hk8 : 8 < k) : F10 k l = some (sealF l) := by
  unfold F10
  rw [F21_spec k l hB (by omega) hk]
  simp only [bnd, Option.bind_some]
  rw [F15_spec k l 8 [sm l] (by simpa using (sm_bd l).1) hk8 (by simp; omega) (by simp) (by simp; omega)]
  simp [sealF, clamp8, nums1]

def unsealF (l : List Int) : List Int × Int :=
  if l.length < 8 then ([], 30)
  else if l.drop (l.length - 8) = leB 8 (sm (l.take (l.length - 8))) then (l.take (l.length - 8), 0) else ([], 33)

theorem Bs.take {l : List Int} (h : Bs l) (n : Nat) : Bs (l.take n) := fun x hx => h x (List.mem_of_mem_take hx)
theorem Bs.drop {l : List Int} (h : Bs l) (n : Nat) : Bs (l.drop n) := fun x hx => h x (List.mem_of_mem_drop hx)

theorem F11_spec (k : Nat) (l : List Int) (hB : Bs l) (hf : l.length ≤ 140737488355328) (hk : l.length < k) (hk8 : 8 < k) : F11 k l = some (unsealF l) := by
  unfold F11 unsealF
  rw [w64 (n := (l.length : Int) - 8) (by omega) (by omega)]
  by_cases h8 : l.length < 8
  · have : decide ((l.length : Int) - 8 < 0) = true := by simp; omega
    simp only [this, br, h8, if_true]
  · have : decide ((l.length : Int) - 8 < 0) = false := by simp; omega
    simp only [this, br, req, h8, if_false]
    have e : ((l.length : Int) - 8).toNat = l.length - 8 := by omega
    rw [if_pos (by simp only [cutOk]; omega), if_pos (by simp only [cutOk]; omega)]
    simp only [cut, e]
    rw [F21_spec k _ (hB.take _) (by simp; omega) (by simp; omega)]
    simp only [bnd, Option.bind_some]
    rw [F15_spec k [] 8 [sm (l.take (l.length - 8))] (by simpa using (sm_bd _).1) hk8 (by simp; omega) (by simp) (by simp)]
    simp only [Option.bind_some, clamp8, nums1, List.nil_append]
    rw [F12_spec k _ _ (by simp; omega) (by simp; omega)]
    simp only [Option.bind_some]
    by_cases he : l.drop (l.length - 8) = leB 8 (sm (l.take (l.length - 8)))
    · simp only [he, decide_true, Bool.not_true, if_true, F13, req]
      rw [if_pos (by simp only [fits, List.length_nil, List.length_take]; omega)]
      rfl
    · simp only [he, decide_false, Bool.not_false, if_false]

theorem F9_spec (k : Nat) (hk : 8 < k) : F9 k = some true := by
  unfold F9
  rw [F15_spec k [] 2 [300] (by simp) hk (by simp; omega) (by simp) (by simp)]
  have e : ([] : List Int) ++ numsB (clampS 2) [300] = [44, 1] := by decide
  simp only [bnd, Option.bind_some, e]
  rw [F12_spec k _ _ (by simp) (by simp; omega)]
  simp only [Option.bind_some, decide_true, br]
  rw [F21_spec k [] (by simp [Bs]) (by simp) (by simp; omega)]
  simp only [Option.bind_some]
  have e1 : (sm [] == 1) = true := by decide
  rw [e1]
  simp only []
  rw [F21_spec k [5] (by simp [Bs]) (by simp) (by simp; omega)]
  have e2 : (sm [5] == 25769803782) = true := by decide
  simp only [Option.bind_some, e2]

/-! Damage. -/
theorem leB_inj : ∀ (s : Nat) (a b : Int), 0 ≤ a → a < 256 ^ s → 0 ≤ b → b < 256 ^ s → leB s a = leB s b → a = b
  | 0, a, b, a0, a1, b0, b1, _ => by simp at a1 b1; omega
  | s + 1, a, b, a0, a1, b0, b1, h => by
    simp only [leB, List.cons.injEq] at h
    have p : (256 : Int) ^ (s + 1) = 256 ^ s * 256 := by rw [Int.pow_succ]
    rw [p] at a1 b1
    have := leB_inj s (a / 256) (b / 256) (by omega) (by omega) (by omega) (by omega) h.2
    omega

theorem sumF_fst : ∀ (l : List Int) (x y : Int), 0 ≤ x → x < 4294967291 → (sumF l x y).1 = (x + l.sum) % 4294967291
  | [], x, y, h0, h1 => by simp [sumF]; omega
  | b :: l, x, y, h0, h1 => by
    simp only [sumF]
    rw [sumF_fst l _ _ (by omega) (by omega)]
    simp only [List.sum_cons]
    omega

theorem sum_set (l : List Int) (j : Nat) (v w : Int) (h : l[j]? = some v) : (l.set j w).sum = l.sum - v + w := by
  induction l generalizing j with
  | nil => simp at h
  | cons a l ih =>
    cases j with
    | zero => simp at h; subst h; simp; omega
    | succ j => simp at h; simp [ih j h]; omega

theorem xor8 {x y : Int} (x0 : 0 ≤ x) (x1 : x < 256) (y0 : 0 ≤ y) (y1 : y < 256) : 0 ≤ bitsI .xor .u8 x y ∧ bitsI .xor .u8 x y < 256 ∧ (bitsI .xor .u8 x y = x ↔ y = 0) := by
  have hb : IntKind.u8.bits = 8 := rfl
  have e : bitsI .xor .u8 x y = ((BitVec.ofInt 8 x ^^^ BitVec.ofInt 8 y).toNat : Int) := by
    simp only [bitsI]
    rw [wu8]
    have := (BitVec.ofInt IntKind.u8.bits x ^^^ BitVec.ofInt IntKind.u8.bits y).isLt
    rw [hb] at this ⊢
    omega
  rw [e]
  have lt := (BitVec.ofInt 8 x ^^^ BitVec.ofInt 8 y).isLt
  refine ⟨by omega, by omega, ?_⟩
  have ex : ((BitVec.ofInt 8 x).toNat : Int) = x := by simp [BitVec.toNat_ofInt]; omega
  have ey : ((BitVec.ofInt 8 y).toNat : Int) = y := by simp [BitVec.toNat_ofInt]; omega
  constructor
  · intro h
    have h2 : (BitVec.ofInt 8 x ^^^ BitVec.ofInt 8 y).toNat = (BitVec.ofInt 8 x).toNat := by omega
    have h3 : BitVec.ofInt 8 x ^^^ BitVec.ofInt 8 y = BitVec.ofInt 8 x := BitVec.eq_of_toNat_eq h2
    have h4 : BitVec.ofInt 8 y = 0#8 := by
      have := congrArg (fun z => BitVec.ofInt 8 x ^^^ z) h3
      simpa [← BitVec.xor_assoc] using this
    rw [h4] at ey
    simpa using ey.symm
  · rintro rfl
    have : BitVec.ofInt 8 0 = 0#8 := rfl
    rw [this]
    simpa using ex

theorem unseal_seal (l : List Int) : unsealF (sealF l) = (l, 0) := by
  have h : (sealF l).length = l.length + 8 := by simp [sealF, leB_length]
  unfold unsealF
  rw [h, if_neg (by omega)]
  simp [sealF]

theorem unseal_set (l : List Int) (hB : Bs l) (j : Nat) (v w : Int) (h : (sealF l)[j]? = some v) (w0 : 0 ≤ w) (w1 : w < 256) : (unsealF ((sealF l).set j w)).2 = if w = v then 0 else 33 := by
  have hl : (sealF l).length = l.length + 8 := by simp [sealF, leB_length]
  by_cases hw : w = v
  · subst hw
    have : (sealF l).set j w = sealF l := by
      apply List.ext_getElem?
      intro i
      rw [List.getElem?_set]
      split
      · rename_i e; subst e; rw [if_pos (lt_of_get h), h]
      · rfl
    rw [this, unseal_seal]; simp
  · rw [if_neg hw]
    unfold unsealF
    rw [List.length_set, hl, if_neg (by omega)]
    simp only [Nat.add_sub_cancel]
    rw [if_neg]
    intro he
    have hj := lt_of_get h
    rw [hl] at hj
    by_cases hjl : j < l.length
    · have e1 : ((sealF l).set j w).take l.length = l.set j w := by
        simp only [sealF]
        rw [List.set_append_left _ _ hjl, List.take_left' (by simp)]
      have e2 : ((sealF l).set j w).drop l.length = leB 8 (sm l) := by
        simp only [sealF]
        rw [List.set_append_left _ _ hjl, List.drop_left' (by simp)]
      rw [e1, e2] at he
      have := leB_inj 8 _ _ (sm_bd l).1 (sm_bd l).2 (sm_bd _).1 (sm_bd _).2 he
      have hv : l[j]? = some v := by simpa [sealF, List.getElem?_append_left hjl] using h
      obtain ⟨a, b, c, d⟩ := sumF_bd l 1 0 (by omega) (by omega) (by omega) (by omega)
      obtain ⟨a', b', c', d'⟩ := sumF_bd (l.set j w) 1 0 (by omega) (by omega) (by omega) (by omega)
      have e3 : (sumF l 1 0).1 = (sumF (l.set j w) 1 0).1 := by simp only [sm] at this; omega
      rw [sumF_fst _ _ _ (by omega) (by omega), sumF_fst _ _ _ (by omega) (by omega), sum_set l j v w hv] at e3
      obtain ⟨v0, v1⟩ := hB v (List.mem_of_getElem? hv)
      omega
    · have e1 : ((sealF l).set j w).take l.length = l := by
        simp only [sealF]
        rw [List.set_append_right _ _ (by omega), List.take_left' rfl]
      have e2 : ((sealF l).set j w).drop l.length = (leB 8 (sm l)).set (j - l.length) w := by
        simp only [sealF]
        rw [List.set_append_right _ _ (by omega), List.drop_left' rfl]
      rw [e1, e2] at he
      have hv : (leB 8 (sm l))[j - l.length]? = some v := by simpa [sealF, List.getElem?_append_right (by omega : l.length ≤ j)] using h
      have := congrArg (fun z => z[j - l.length]?) he
      simp only [List.getElem?_set_self (lt_of_get hv), hv] at this
      exact hw (Option.some.inj this)

theorem sealF_Bs {l : List Int} (h : Bs l) : Bs (sealF l) := by
  intro x hx
  rcases List.mem_append.1 hx with hx | hx
  · exact h x hx
  · exact leB_Bs _ _ x hx

theorem Bs.set {l : List Int} (h : Bs l) (j : Nat) {w : Int} (w0 : 0 ≤ w) (w1 : w < 256) : Bs (l.set j w) := by
  intro x hx
  rcases List.mem_or_eq_of_mem_set hx with hx | rfl
  · exact h x hx
  · exact ⟨w0, w1⟩

/-! What is written, sums. -/
theorem br_true {α : Type} (a b : Option α) : br true a b = a := rfl
theorem br_false {α : Type} (a b : Option α) : br false a b = b := rfl
theorem bnd_some' {α β : Type} (a : α) (f : α → Option β) : bnd (some a) f = f a := rfl
theorem req_pos {α : Type} {p : Prop} [Decidable p] (h : p) (a : Option α) : req p a = a := by simp [req, h]
theorem Bs.min {l : List Int} (h : ∀ y ∈ l, (IntKind.u8.min ≤ y ∧ y ≤ IntKind.u8.max)) : Bs l := by
  intro x hx
  have := h x hx
  simp [IntKind.min, IntKind.max, IntKind.signed, IntKind.bits] at this
  omega

theorem F22_1_spec (k : Nat) (l : List Int) (hB : Bs l) (hb : l.length < 4611686018427387904) : ∀ (n i : Nat) (x y : Int), i ≤ l.length → l.length - i < n → 0 ≤ x → x < 4294967291 → 0 ≤ y → y < 4294967291 →
    F22_1 k l n x y (i : Int) = some (sumF (l.drop i) x y)
  | 0, i, x, y, _, h, _, _, _, _ => by omega
  | n + 1, i, x, y, hi, h, x0, x1, y0, y1 => by
    rw [F22_1]
    by_cases hlt : i < l.length
    · have ha : l[i]? = some l[i] := List.getElem?_eq_getElem hlt
      obtain ⟨c0, c1⟩ := hB l[i] (by simp)
      rw [at_nat, ha, drop_cons ha]
      have : decide ((i : Int) < (l.length : Int)) = true := by simpa using hlt
      simp only [this, br, bnd, Option.bind_some]
      rw [show IntKind.i64.wrap ((i : Int) + 1) = ((i + 1 : Nat) : Int) by rw [w64 (by omega) (by omega)]; simp]
      rw [wu64 (n := l[i]) (by omega) (by omega), wu64 (n := x + l[i]) (by omega) (by omega)]
      have e : Int.tmod (x + l[i]) 4294967291 = (x + l[i]) % 4294967291 := by rw [Int.tmod_eq_emod_of_nonneg (by omega)]
      rw [e]
      have e0 : 0 ≤ (x + l[i]) % 4294967291 := by omega
      have e1 : (x + l[i]) % 4294967291 < 4294967291 := by omega
      rw [wu64 (n := y + (x + l[i]) % 4294967291) (by omega) (by omega)]
      rw [Int.tmod_eq_emod_of_nonneg (by omega)]
      rw [F22_1_spec k l hB hb n (i + 1) _ _ (by omega) (by omega) e0 e1 (by omega) (by omega)]
      rfl
    · have : decide ((i : Int) < (l.length : Int)) = false := by simpa using hlt
      simp only [this, br]
      rw [List.drop_eq_nil_of_le (by omega)]
      rfl

theorem F22_spec (k : Nat) (l : List Int) (hB : Bs l) (hb : l.length < 4611686018427387904) (hk : l.length < k) : F22 k l = some (sm l) := by
  unfold F22
  have := F22_1_spec k l hB hb k 0 1 0 (by omega) (by omega) (by omega) (by omega) (by omega) (by omega)
  rw [show ((0 : Nat) : Int) = 0 from rfl] at this
  rw [this]
  obtain ⟨a, b, c, d⟩ := sumF_bd l 1 0 (by omega) (by omega) (by omega) (by omega)
  simp only [bnd, Option.bind_some, List.drop_zero, shlI]
  have e : (min (Int.toNat 32) IntKind.u64.bits) = 32 := by decide
  rw [e, wu64 (n := (sumF l 1 0).2 * 2 ^ 32) (by omega) (by omega), wu64 (by omega) (by omega)]
  simp [sm]

def valB : List Int → Int
  | [] => 0
  | b :: l => b + 256 * valB l
theorem valB_bd : ∀ {l : List Int}, Bs l → 0 ≤ valB l ∧ valB l < 256 ^ l.length
  | [], _ => by simp [valB]
  | b :: l, h => by
    obtain ⟨c0, c1⟩ := h b (by simp)
    obtain ⟨d0, d1⟩ := valB_bd (l := l) fun x hx => h x (by simp [hx])
    simp only [valB, List.length_cons, Int.pow_succ]
    omega
theorem leB_valB : ∀ {l : List Int}, Bs l → leB l.length (valB l) = l
  | [], _ => rfl
  | b :: l, h => by
    obtain ⟨c0, c1⟩ := h b (by simp)
    have h' : Bs l := fun x hx => h x (by simp [hx])
    simp only [valB, List.length_cons, leB]
    rw [show (b + 256 * valB l) % 256 = b by omega, show (b + 256 * valB l) / 256 = valB l by omega, leB_valB h']
theorem valB_eq {l : List Int} {n : Int} (h : Bs l) (n0 : 0 ≤ n) (n1 : n < 256 ^ l.length) : valB l = n ↔ l = leB l.length n := by
  constructor
  · rintro rfl; exact (leB_valB h).symm
  · intro e
    obtain ⟨d0, d1⟩ := valB_bd h
    refine leB_inj l.length _ _ d0 d1 n0 n1 ?_
    rw [leB_valB h, ← e]

theorem F38_1_spec (k : Nat) (l : List Int) (hB : Bs l) (hl : l.length ≤ 8) : ∀ (n i : Nat), i ≤ l.length → i < n →
    F38_1 k l n (valB (l.drop i)) ((i : Int) - 1) = some (valB l)
  | 0, i, _, h => by omega
  | n + 1, i, hi, h => by
    rw [F38_1]
    cases i with
    | zero =>
      have : decide (((0 : Nat) : Int) - 1 ≥ 0) = false := by decide
      simp only [this, br, List.drop_zero]
    | succ i =>
      have hlt : i < l.length := by omega
      have ha : l[i]? = some l[i] := List.getElem?_eq_getElem hlt
      obtain ⟨c0, c1⟩ := hB l[i] (by simp)
      have e1 : ((i + 1 : Nat) : Int) - 1 = (i : Int) := by omega
      have : decide ((i : Int) ≥ 0) = true := by simp
      rw [e1]
      simp only [this, br, at_nat, ha, bnd, Option.bind_some]
      rw [w64 (n := (i : Int) - 1) (by omega) (by omega), wu64 (n := l[i]) (by omega) (by omega)]
      have hd := valB_bd (l := l.drop (i + 1)) (fun x hx => hB x (List.mem_of_mem_drop hx))
      have hp : (256 : Int) ^ (l.drop (i + 1)).length ≤ 72057594037927936 := by
        have h7 : (l.drop (i + 1)).length ≤ 7 := by rw [List.length_drop]; omega
        generalize (l.drop (i + 1)).length = m at h7
        have h8 : (256 : Int) ^ m = ((256 ^ m : Nat) : Int) := by rw [Int.natCast_pow]; rfl
        have h9 := Nat.pow_le_pow_right (n := 256) (by decide) h7
        have h10 : 256 ^ 7 = 72057594037927936 := by decide
        rw [h8]; omega
      have e : (min (Int.toNat 8) IntKind.u64.bits) = 8 := by decide
      simp only [shlI, e]
      rw [wu64 (n := valB (l.drop (i + 1)) * 2 ^ 8) (by omega) (by omega), wu64 (by omega) (by omega)]
      have e2 : valB (l.drop (i + 1)) * 2 ^ 8 + l[i] = valB (l.drop i) := by rw [drop_cons ha, valB]; omega
      rw [e2]
      exact F38_1_spec k l hB hl n i (by omega) (by omega)

theorem F38_spec (k : Nat) (l : List Int) (hB : Bs l) (hl : l.length ≤ 8) (hk : 8 < k) : F38 k l = some (valB l) := by
  unfold F38
  have := F38_1_spec k l hB hl k l.length (Nat.le_refl _) (by omega)
  rw [List.drop_length] at this
  simp only [valB] at this
  rw [w64 (by omega) (by omega), this]
  rfl

theorem F14_spec (k : Nat) (l : List Int) (hB : Bs l) (hf : l.length ≤ 140737488355328) (hk : l.length < k) (hk8 : 8 < k) : F14 k l = some (unsealF l) := by
  unfold F14 unsealF
  rw [w64 (n := (l.length : Int) - 8) (by omega) (by omega)]
  by_cases h8 : l.length < 8
  · have : decide ((l.length : Int) < 8) = true := by simp; omega
    simp only [this, br, h8, if_true]
  · have : decide ((l.length : Int) < 8) = false := by simp; omega
    simp only [this, br, req, h8, if_false]
    have e : ((l.length : Int) - 8).toNat = l.length - 8 := by omega
    have hd8 : (l.drop (l.length - 8)).length = 8 := by simp; omega
    rw [if_pos (by simp only [cutOk]; omega), if_pos (by simp only [fits, cut, List.length_nil, List.length_take]; omega), if_pos (by simp only [cutOk]; omega)]
    simp only [cut, e]
    rw [F22_spec k _ (hB.take _) (by simp; omega) (by simp; omega), F38_spec k _ (hB.drop _) (by omega) hk8]
    simp only [bnd, Option.bind_some]
    have q := valB_eq (hB.drop (l.length - 8)) (sm_bd (l.take (l.length - 8))).1 (by rw [hd8]; have := (sm_bd (l.take (l.length - 8))).2; omega)
    rw [hd8] at q
    by_cases he : l.drop (l.length - 8) = leB 8 (sm (l.take (l.length - 8)))
    · rw [if_pos he]
      have : (valB (l.drop (l.length - 8)) != sm (l.take (l.length - 8))) = false := by simpa using q.2 he
      simp only [this]
    · rw [if_neg he]
      have : (valB (l.drop (l.length - 8)) != sm (l.take (l.length - 8))) = true := by simpa using fun h => he (q.1 h)
      simp only [this]

theorem shrI_nn {n : Int} (i : Nat) (hi : i ≤ 64) : shrI .u64 n ((i : Nat) : Int) = n / 2 ^ i := by
  have e : (min (Int.toNat ((i : Nat) : Int)) IntKind.u64.bits) = i := by
    rw [Int.toNat_natCast]; exact Nat.min_eq_left hi
  simp only [shrI, e]
  rw [Int.fdiv_eq_ediv_of_nonneg _ (Int.pow_nonneg (by decide))]

theorem F41_spec (size : Int) : F41 size = some ((clampS size : Nat) : Int) := by
  simp only [F41, mnI, mxI, clampS]
  congr 1
  split <;> split <;> omega

theorem F16_2_spec (k : Nat) (size : Int) (L : List Int) (j : Nat) (v : Int) (hj : L[j]? = some v) : ∀ (n i : Nat) (out : List Int), i ≤ clampS size → clampS size - i < n → out.length + 8 ≤ 140737488355328 + i →
    F16_2 k size L (j : Int) n out (i : Int) = some (out ++ leB (clampS size - i) (v / 256 ^ i))
  | 0, i, out, _, h, _ => by omega
  | n + 1, i, out, hi, h, hf => by
    have c := clampS_le size
    rw [F16_2, F41_spec]
    simp only [bnd, Option.bind_some]
    by_cases hlt : i < clampS size
    · have : decide ((i : Int) < ((clampS size : Nat) : Int)) = true := by simpa using hlt
      simp only [this, br, at_nat, hj, Option.bind_some]
      rw [w64 (n := 8 * (i : Int)) (by omega) (by omega), wu64 (n := 8 * (i : Int)) (by omega) (by omega)]
      rw [req_pos (by omega), req_pos (by simp only [fits, List.length_cons, List.length_nil]; omega)]
      rw [show (8 * (i : Int)) = ((8 * i : Nat) : Int) by omega, shrI_nn _ (by omega)]
      rw [show IntKind.i64.wrap ((i : Int) + 1) = ((i + 1 : Nat) : Int) by rw [w64 (by omega) (by omega)]; simp]
      rw [F16_2_spec k size L j v hj n (i + 1) _ (by omega) (by omega) (by simp; omega)]
      rw [show clampS size - i = (clampS size - (i + 1)) + 1 by omega]
      simp only [leB, List.append_assoc, List.cons_append, List.nil_append]
      have e1 : (2 : Int) ^ (8 * i) = 256 ^ i := by rw [Int.pow_mul]; rfl
      rw [e1, wu8]
      rw [Int.ediv_ediv_of_nonneg (Int.pow_nonneg (by decide)), ← Int.pow_succ]
    · have : decide ((i : Int) < ((clampS size : Nat) : Int)) = false := by simpa using hlt
      simp only [this, br]
      rw [show clampS size - i = 0 by omega]
      simp [leB]

theorem F16_1_spec (k : Nat) (size : Int) (L : List Int) (hk : 8 < k) (hb : L.length < 4611686018427387904) : ∀ (n i : Nat) (out : List Int), i ≤ L.length → L.length - i < n → out.length + 8 * (L.length - i) ≤ 140737488355328 →
    F16_1 k size L n out (i : Int) = some (out ++ numsB (clampS size) (L.drop i))
  | 0, i, out, _, h, _ => by omega
  | n + 1, i, out, hi, h, hf => by
    rw [F16_1]
    by_cases hlt : i < L.length
    · have ha : L[i]? = some L[i] := List.getElem?_eq_getElem hlt
      have : decide ((i : Int) < (L.length : Int)) = true := by simpa using hlt
      have c := clampS_le size
      simp only [this, br]
      have q := F16_2_spec k size L i L[i] ha k 0 out (by omega) (by omega) (by omega)
      simp only [Nat.sub_zero, Int.cast_ofNat_Int, Int.pow_zero, Int.ediv_one] at q
      rw [q]
      simp only [bnd, Option.bind_some]
      rw [show IntKind.i64.wrap ((i : Int) + 1) = ((i + 1 : Nat) : Int) by rw [w64 (by omega) (by omega)]; simp]
      rw [F16_1_spec k size L hk hb n (i + 1) _ (by omega) (by omega) (by simp [leB_length]; omega), drop_cons ha]
      simp only [numsB, List.flatMap_cons, List.append_assoc]
    · have : decide ((i : Int) < (L.length : Int)) = false := by simpa using hlt
      simp only [this, br]
      rw [List.drop_eq_nil_of_le (by omega)]
      simp [numsB]

theorem F16_spec (k : Nat) (b : List Int) (size : Int) (L : List Int) (hk : 8 < k) (hk2 : L.length < k) (hb : L.length < 4611686018427387904) (hf : b.length + 8 * L.length ≤ 140737488355328) :
    F16 k b size L = some (b ++ numsB (clampS size) L) := by
  unfold F16
  rw [req_pos (by simp only [fits, List.length_nil]; omega)]
  have q := F16_1_spec k size L hk hb k 0 b (by omega) (by omega) (by omega)
  simp only [List.drop_zero, Int.cast_ofNat_Int] at q
  simp [bnd, q]

theorem numsB_length (s : Nat) : ∀ L : List Int, (numsB s L).length = L.length * s
  | [] => by simp [numsB]
  | x :: L => by have := numsB_length s L; simp [numsB, leB_length, Nat.add_mul] at this ⊢; omega
theorem clamp4 : clampS 4 = 4 := by decide
def strF (b x : List Int) : List Int := b ++ leB 4 x.length ++ x
theorem F17_spec (k : Nat) (b x : List Int) (hk : 8 < k) (h : b.length + x.length + 16 ≤ 140737488355328) : F17 k b x = some (strF b x) := by
  unfold F17
  rw [wu64 (by omega) (by omega), F15_spec k b 4 [(x.length : Int)] (by simp) hk (by simp; omega) (by simp) (by simp; omega)]
  simp only [bnd, Option.bind_some, clamp4, nums1]
  rw [req_pos (by simp only [fits, List.length_append, leB_length]; omega)]
  rfl
theorem F18_spec (k : Nat) (b x : List Int) (hk : 8 < k) (h : b.length + x.length + 16 ≤ 140737488355328) : F18 k b x = some (strF b x) := by
  unfold F18 F37
  rw [wu64 (by omega) (by omega), F16_spec k b 4 [(x.length : Int)] hk (by simp; omega) (by simp) (by simp; omega)]
  simp only [bnd, Option.bind_some, clamp4, nums1]
  rw [req_pos (by simp only [fits, List.length_append, leB_length]; omega)]
  rfl
theorem F23_spec (k : Nat) (l : List Int) (hB : Bs l) (hf : l.length + 8 ≤ 140737488355328) (hk : l.length < k) (hk8 : 8 < k) : F23 k l = some (sealF l) := by
  unfold F23 F37
  rw [F22_spec k l hB (by omega) hk]
  simp only [bnd, Option.bind_some]
  rw [F16_spec k l 8 [sm l] hk8 (by simp; omega) (by simp) (by simp; omega)]
  simp [sealF, clamp8, nums1]

/-! Check -/
def Ws (l : List Int) : Prop := ∀ x ∈ l, 0 ≤ x ∧ x < 18446744073709551616
theorem Ws.min {l : List Int} (h : ∀ y ∈ l, (IntKind.u64.min ≤ y ∧ y ≤ IntKind.u64.max)) : Ws l := by
  intro x hx
  have := h x hx
  simp [IntKind.min, IntKind.max, IntKind.signed, IntKind.bits] at this
  omega
/-- bit i of the words -/
def bitW (l : List Int) (i : Nat) : Bool := (l.getD (i / 64) 0).toNat.testBit (i % 64)
theorem and1 {n : Int} (h0 : 0 ≤ n) (h1 : n < 18446744073709551616) : bitsI .and .u64 n 1 = n % 2 := by
  simp only [bitsI]
  have e : (BitVec.ofInt IntKind.u64.bits n &&& BitVec.ofInt IntKind.u64.bits 1).toNat = n.toNat % 2 := by
    rw [BitVec.toNat_and]
    have e1 : (BitVec.ofInt IntKind.u64.bits 1).toNat = 1 := rfl
    have e2 : (BitVec.ofInt IntKind.u64.bits n).toNat = n.toNat := by
      rw [BitVec.toNat_ofInt]; congr 1
      rw [show ((2 ^ IntKind.u64.bits : Nat) : Int) = 18446744073709551616 from rfl]
      omega
    rw [e1, e2, Nat.and_one_is_mod]
  rw [e, wu64 (by omega) (by omega)]
  omega
theorem bit_word {v : Int} (h0 : 0 ≤ v) (h1 : v < 18446744073709551616) (j : Nat) (hj : j < 64) : (bitsI .and .u64 (shrI .u64 v (j : Int)) 1 == 1) = v.toNat.testBit j := by
  rw [shrI_nn j (by omega)]
  have p : (0 : Int) < 2 ^ j := Int.pow_pos (by decide)
  have a0 : 0 ≤ v / 2 ^ j := Int.ediv_nonneg h0 (by omega)
  have a1 : v / 2 ^ j ≤ v := Int.ediv_le_self _ h0
  rw [and1 a0 (by omega)]
  rw [Nat.testBit_eq_decide_div_mod_eq]
  have : v / 2 ^ j % 2 = ((v.toNat / 2 ^ j % 2 : Nat) : Int) := by
    rw [Int.natCast_emod, Int.natCast_ediv, Int.toNat_of_nonneg h0]; simp
  rw [this]
  by_cases h : v.toNat / 2 ^ j % 2 = 1
  · rw [h]; rfl
  · have e : (((v.toNat / 2 ^ j % 2 : Nat) : Int) == 1) = false := by rw [beq_eq_false_iff_ne]; omega
    rw [e]; simp [h]
theorem F47_spec (l : List Int) (hW : Ws l) (i : Nat) (hi : i < 64 * l.length) (hb : l.length < 1000000000) : F47 l (i : Int) = some (bitW l i) := by
  unfold F47
  have e1 : Int.tdiv (i : Int) 64 = ((i / 64 : Nat) : Int) := by rw [Int.tdiv_eq_ediv_of_nonneg (by omega)]; omega
  have e2 : Int.tmod (i : Int) 64 = ((i % 64 : Nat) : Int) := by rw [Int.tmod_eq_emod_of_nonneg (by omega)]; omega
  have hlt : i / 64 < l.length := by omega
  have ha : l[i / 64]? = some l[i / 64] := List.getElem?_eq_getElem hlt
  rw [e1, e2, w64 (by omega) (by omega), at_nat, ha, wu64 (by omega) (by omega)]
  simp only [bnd, Option.bind_some]
  rw [req_pos (by omega)]
  obtain ⟨c0, c1⟩ := hW l[i / 64] (by simp)
  rw [bit_word c0 c1 _ (by omega)]
  simp [bitW, List.getD_eq_getElem?_getD, ha]
open Classical in
theorem F31_1_spec (k : Nat) (N : Int) (l : List Int) (hW : Ws l) (hb : l.length < 1000000000) : ∀ (n i : Nat), i ≤ 64 * l.length → 64 * l.length - i < n →
    F31_1 k N l n (i : Int) = some (if ∃ j, i ≤ j ∧ j < 64 * l.length ∧ bitW l j = true then .inl 10 else .inr ())
  | 0, i, _, h => by omega
  | n + 1, i, hi, h => by
    rw [F31_1, w64 (n := 64 * (l.length : Int)) (by omega) (by omega)]
    by_cases hlt : i < 64 * l.length
    · have : decide ((i : Int) < 64 * (l.length : Int)) = true := by simp; omega
      simp only [this, br]
      rw [F47_spec l hW i hlt hb]
      simp only [bnd, Option.bind_some]
      cases hbit : bitW l i with
      | true => simp only []; rw [if_pos ⟨i, Nat.le_refl _, hlt, hbit⟩]
      | false =>
        simp only []
        rw [show IntKind.i64.wrap ((i : Int) + 1) = ((i + 1 : Nat) : Int) by rw [w64 (by omega) (by omega)]; simp]
        rw [F31_1_spec k N l hW hb n (i + 1) (by omega) (by omega)]
        congr 1
        have : (∃ j, i + 1 ≤ j ∧ j < 64 * l.length ∧ bitW l j = true) ↔ (∃ j, i ≤ j ∧ j < 64 * l.length ∧ bitW l j = true) := by
          constructor
          · rintro ⟨j, a, b, c⟩; exact ⟨j, by omega, b, c⟩
          · rintro ⟨j, a, b, c⟩
            refine ⟨j, ?_, b, c⟩
            rcases Nat.lt_or_ge i j with h | h
            · omega
            · have : i = j := by omega
              subst this; rw [hbit] at c; cases c
        simp only [this]
    · have : decide ((i : Int) < 64 * (l.length : Int)) = false := by simp; omega
      simp only [this, br]
      rw [if_neg (by rintro ⟨j, a, b, c⟩; omega)]

open Classical in
noncomputable def chkF (s : S32) : Int :=
  if s.N < 0 ∨ s.N > 8192 ∨ (s.Words.length : Int) ≠ (s.N + 63) / 64 then 10
  else if ∃ j, s.N.toNat ≤ j ∧ j < 64 * s.Words.length ∧ bitW s.Words j = true then 10 else 0

open Classical in
theorem F31_spec (k : Nat) (s : S32) (hW : Ws s.Words) (hb : s.Words.length < 1000000000) (hk : 10000 < k) (hN : -9223372036854775808 ≤ s.N) : F31 k s = some (chkF s) := by
  unfold F31 chkF
  by_cases h1 : s.N < 0
  · simp [h1, br]
  by_cases h2 : s.N > 8192
  · simp [h1, h2, br]
  have e1 : Int.tdiv (s.N + 63) 64 = (s.N + 63) / 64 := by rw [Int.tdiv_eq_ediv_of_nonneg (by omega)]
  rw [w64 (n := s.N + 63) (by omega) (by omega), e1, w64 (by omega) (by omega)]
  simp only [h1, h2, decide_false, br_false, false_or]
  by_cases h3 : (s.Words.length : Int) = (s.N + 63) / 64
  · have : ((s.Words.length : Int) != (s.N + 63) / 64) = false := by simpa using h3
    have q := F31_1_spec k s.N s.Words hW hb k s.N.toNat (by omega) (by omega)
    rw [Int.toNat_of_nonneg (by omega)] at q
    rw [this, br_false, q]
    simp only [h3, ne_eq, not_true_eq_false, if_false]
    split <;> rfl
  · have : ((s.Words.length : Int) != (s.N + 63) / 64) = true := by simpa using h3
    rw [this, br_true, if_pos h3]

theorem testBit_shr {v r : Nat} (hv : v < 2 ^ 64) : v / 2 ^ r ≠ 0 ↔ ∃ j, r ≤ j ∧ j < 64 ∧ v.testBit j = true := by
  constructor
  · intro h
    obtain ⟨i, hi⟩ := Nat.exists_testBit_of_ne_zero h
    rw [Nat.testBit_div_two_pow] at hi
    refine ⟨i + r, by omega, ?_, hi⟩
    rcases Nat.lt_or_ge (i + r) 64 with h' | h'
    · exact h'
    · have : v < 2 ^ (i + r) := Nat.lt_of_lt_of_le hv (Nat.pow_le_pow_right (by decide) h')
      rw [Nat.testBit_lt_two_pow this] at hi; cases hi
  · rintro ⟨j, a, b, c⟩ h
    have := Nat.testBit_div_two_pow (n := r) v (j - r)
    rw [h, Nat.zero_testBit, Nat.sub_add_cancel a, c] at this
    cases this

open Classical in
theorem F42_spec (s : S32) (hW : Ws s.Words) (hN : -9223372036854775808 ≤ s.N) : F42 s = some (chkF s) := by
  unfold F42 chkF
  by_cases h1 : s.N < 0
  · simp [h1, br]
  by_cases h2 : s.N > 8192
  · simp [h1, h2, br]
  have e1 : Int.tdiv (s.N + 63) 64 = (s.N + 63) / 64 := by rw [Int.tdiv_eq_ediv_of_nonneg (by omega)]
  simp only [h1, h2, decide_false, br_false, false_or, F48]
  rw [w64 (n := s.N + 63) (by omega) (by omega), e1, w64 (n := (s.N + 63) / 64) (by omega) (by omega), bnd_some']
  by_cases h3 : (s.Words.length : Int) = (s.N + 63) / 64
  · have : ((s.Words.length : Int) != (s.N + 63) / 64) = false := by simpa using h3
    rw [this, br_false]
    simp only [h3, ne_eq, not_true_eq_false, if_false]
    have e2 : Int.tmod s.N 64 = ((s.N.toNat % 64 : Nat) : Int) := by rw [Int.tmod_eq_emod_of_nonneg (by omega)]; omega
    rw [e2, ← h3]
    by_cases h4 : s.N.toNat % 64 = 0
    · have : decide (((s.N.toNat % 64 : Nat) : Int) > 0) = false := by simp; omega
      rw [this, br_false, if_neg (by rintro ⟨j, a, b, c⟩; omega)]
    · have : decide (((s.N.toNat % 64 : Nat) : Int) > 0) = true := by simp; omega
      rw [this, br_true]
      have hl : 0 < s.Words.length := by omega
      have e3 : IntKind.i64.wrap ((s.Words.length : Int) - 1) = ((s.Words.length - 1 : Nat) : Int) := by rw [w64 (by omega) (by omega)]; omega
      have ha : s.Words[s.Words.length - 1]? = some (s.Words[s.Words.length - 1]'(by omega)) := List.getElem?_eq_getElem (by omega)
      obtain ⟨c0, c1⟩ := hW (s.Words[s.Words.length - 1]'(by omega)) (by simp)
      generalize s.Words[s.Words.length - 1]'(by omega) = v at ha c0 c1
      rw [e3, at_nat, ha, bnd_some', req_pos (by omega), shrI_nn _ (by omega)]
      have e4 : v / 2 ^ (s.N.toNat % 64) = ((v.toNat / 2 ^ (s.N.toNat % 64) : Nat) : Int) := by rw [Int.natCast_ediv, Int.toNat_of_nonneg c0]; simp
      have q := testBit_shr (v := v.toNat) (r := s.N.toNat % 64) (by omega)
      have q2 : v.toNat / 2 ^ (s.N.toNat % 64) ≠ 0 ↔ ∃ j, s.N.toNat ≤ j ∧ j < 64 * s.Words.length ∧ bitW s.Words j = true := by
        rw [q]
        clear q
        constructor
        · rintro ⟨j, a, b, c⟩
          refine ⟨64 * (s.Words.length - 1) + j, by omega, by omega, ?_⟩
          have f1 : (64 * (s.Words.length - 1) + j) / 64 = s.Words.length - 1 := by omega
          have f2 : (64 * (s.Words.length - 1) + j) % 64 = j := by omega
          simp only [bitW, f1, f2, List.getD_eq_getElem?_getD, ha, Option.getD_some, c]
        · rintro ⟨j, a, b, c⟩
          have f1 : j / 64 = s.Words.length - 1 := by omega
          refine ⟨j % 64, by omega, by omega, ?_⟩
          simpa only [bitW, f1, List.getD_eq_getElem?_getD, ha, Option.getD_some] using c
      rw [e4]
      by_cases h5 : v.toNat / 2 ^ (s.N.toNat % 64) = 0
      · rw [h5, if_neg (fun h => q2.2 h h5)]; rfl
      · rw [if_pos (q2.1 h5)]
        have : (((v.toNat / 2 ^ (s.N.toNat % 64) : Nat) : Int) != 0) = true := by simp only [bne_iff_ne, ne_eq]; omega
        rw [this, br_true]
  · have : ((s.Words.length : Int) != (s.N + 63) / 64) = true := by simpa using h3
    rw [this, br_true, if_pos h3]

noncomputable def setF (b : List Int) (s : S32) : List Int := if chkF s ≠ 0 then b else b ++ numsB 8 s.Words
theorem F19_spec (k : Nat) (b : List Int) (s : S32) (hW : Ws s.Words) (hN : -9223372036854775808 ≤ s.N) (hk : s.Words.length + 8 < k) (hf : b.length + 8 * s.Words.length ≤ 140737488355328) : F19 k b s = some (setF b s) := by
  unfold F19 setF
  rw [F42_spec s hW hN, bnd_some', F15_spec k b 8 s.Words (fun x hx => (hW x hx).1) (by omega) (by omega) (by omega) hf, clamp8]
  by_cases h : chkF s = 0
  · simp [h, br, bnd]
  · have : (chkF s != 0) = true := by simpa using h
    rw [this, br_true, if_pos h]
theorem F20_spec (k : Nat) (b : List Int) (s : S32) (hW : Ws s.Words) (hN : -9223372036854775808 ≤ s.N) (hk : s.Words.length + 10000 < k) (hb : s.Words.length < 1000000000) (hf : b.length + 8 * s.Words.length ≤ 140737488355328) : F20 k b s = some (setF b s) := by
  unfold F20 setF
  rw [F31_spec k s hW hb (by omega) hN, bnd_some', F16_spec k b 8 s.Words (by omega) (by omega) (by omega) hf, F16_spec k b 8 [] (by omega) (by simp; omega) (by simp) (by simp; omega), clamp8]
  by_cases h : chkF s = 0
  · simp [h, br, bnd]
  · have : (chkF s != 0) = true := by simpa using h
    rw [this, br_true, if_pos h]
    simp [bnd, numsB]

theorem bytesPut (q : S34) (hq : W34 q) (hb : bkX [E34 q] ≤ 1048576) : ∃ k, F4 k q = some true := by
  obtain ⟨b, z, L, x, s⟩ := q
  obtain ⟨hB, hz, hL, hx, hN, hw⟩ := hq
  have hB := Bs.min hB
  have hx := Bs.min hx
  have hL := Ws.min hL
  have hw := Ws.min hw
  simp only [E34, bkX, bkL, bk, bkX_EI] at hb hN
  have hN : -9223372036854775808 ≤ s.N := by have := hN.1; simpa [IntKind.min, IntKind.signed, IntKind.bits] using this
  simp only at hB hx hL hw
  refine ⟨20000000, ?_⟩
  unfold F4
  rw [F9_spec _ (by omega)]
  simp only [bnd_some', Bool.not_true, br_false]
  rw [F11_spec _ x hx (by omega) (by omega) (by omega), F14_spec _ x hx (by omega) (by omega) (by omega)]
  simp only [bnd_some']
  rw [F15_spec _ b z L (fun y hy => (hL y hy).1) (by omega) (by omega) (by omega) (by omega), F16_spec _ b z L (by omega) (by omega) (by omega) (by omega)]
  simp only [bnd_some']
  have hnl := numsB_length (clampS z) L
  have hc := clampS_le z
  have hm : L.length * clampS z ≤ L.length * 8 := Nat.mul_le_mul_left _ hc
  rw [F12_spec _ _ _ (by rw [List.length_append, hnl]; omega) (by rw [List.length_append, hnl]; omega)]
  simp only [bnd_some', decide_true, br_true]
  rw [F17_spec _ b x (by omega) (by omega), F18_spec _ b x (by omega) (by omega)]
  simp only [bnd_some']
  rw [F12_spec _ _ _ (by simp [strF, leB_length]; omega) (by simp [strF, leB_length]; omega)]
  simp only [bnd_some', decide_true, br_true]
  rw [F19_spec _ b s hw hN (by omega) (by omega), F20_spec _ b s hw hN (by omega) (by omega) (by omega)]
  simp only [bnd_some']
  have hs8 := numsB_length 8 s.Words
  have hsl : (setF b s).length ≤ b.length + 8 * s.Words.length := by
    unfold setF; split
    · omega
    · rw [List.length_append, hs8]; omega
  rw [F12_spec _ _ _ (by omega) (by omega)]
  simp only [bnd_some', decide_true, br_true]
  rw [F21_spec _ x hx (by omega) (by omega), F22_spec _ x hx (by omega) (by omega)]
  simp only [bnd_some', beq_self_eq_true, br_true]
  rw [F10_spec _ x hx (by omega) (by omega) (by omega), F23_spec _ x hx (by omega) (by omega) (by omega)]
  simp only [bnd_some']
  have hsl : (sealF x).length = x.length + 8 := by simp [sealF, leB_length]
  have hul : (unsealF x).1.length ≤ x.length := by
    unfold unsealF; split
    · simp
    · split <;> simp
  rw [F12_spec _ _ _ (by omega) (by omega)]
  simp only [bnd_some', decide_true, br_true]
  rw [F12_spec _ _ _ (by omega) (by omega)]
  simp only [bnd_some', decide_true, br_true]
end Go.Ev
