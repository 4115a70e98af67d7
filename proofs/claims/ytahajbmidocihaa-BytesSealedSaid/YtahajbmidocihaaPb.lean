/- What the pure functions of bytes answer, in plain Lean. Conditions: bytes are bytes, lengths are such as a machine has. -/
import Derived.Test.YtahajbmidocihaaPa
set_option linter.unusedVariables false
set_option linter.unusedSimpArgs false
namespace Go.Ev

theorem w64 {n : Int} (h0 : -9223372036854775808 ≤ n) (h1 : n < 9223372036854775808) : IntKind.i64.wrap n = n := by
  simp [IntKind.wrap, IntKind.bits, IntKind.signed]; split <;> omega
theorem wu64 {n : Int} (h0 : 0 ≤ n) (h1 : n < 18446744073709551616) : IntKind.u64.wrap n = n := by
  simp [IntKind.wrap, IntKind.bits, IntKind.signed]; omega
theorem wu8 (n : Int) : IntKind.u8.wrap n = n % 256 := by simp [IntKind.wrap, IntKind.bits, IntKind.signed]
theorem at_nat {α : Type} (xs : List α) (i : Nat) : at? xs (i : Int) = xs[i]? := by simp [at?]

def Bs (l : List Int) : Prop := ∀ x ∈ l, 0 ≤ x ∧ x < 256
theorem Bs.of {l : List Int} (h : ∀ x ∈ l, (Lit.int .u8 x).wf = true) : Bs l := by
  intro x hx
  have := h x hx
  simp [Lit.wf, IntKind.min, IntKind.max, IntKind.signed, IntKind.bits] at this
  omega

theorem drop_cons {α : Type} {l : List α} {i : Nat} {x : α} (h : l[i]? = some x) : l.drop i = x :: l.drop (i + 1) := by
  have hi := lt_of_get h
  rw [List.getElem?_eq_getElem hi] at h
  cases h
  exact List.drop_eq_getElem_cons hi

/-! slices.Equal -/
theorem F12_1_spec (k : Nat) (a b : List Int) (hl : a.length = b.length) (hb : a.length < 4611686018427387904) : ∀ (n i : Nat), i ≤ a.length → a.length - i < n →
    F12_1 k a b (a.length : Int) n (i : Int) = some (if a.drop i = b.drop i then .inr () else .inl false)
  | 0, i, _, h => by omega
  | n + 1, i, hi, h => by
    rw [F12_1]
    by_cases hlt : i < a.length
    · have ha : a[i]? = some a[i] := List.getElem?_eq_getElem hlt
      have hb' : b[i]? = some (b[i]'(by omega)) := List.getElem?_eq_getElem (by omega)
      rw [at_nat, at_nat, ha, hb', drop_cons ha, drop_cons hb']
      have : decide ((i : Int) < (a.length : Int)) = true := by simpa using hlt
      simp only [this, br, bnd, Option.bind_some]
      by_cases he : a[i] = b[i]'(by omega)
      · have e1 : (a[i] != b[i]'(by omega)) = false := by simp [he]
        rw [e1]
        simp only []
        rw [show IntKind.i64.wrap ((i : Int) + 1) = ((i + 1 : Nat) : Int) by rw [w64 (by omega) (by omega)]; simp]
        rw [F12_1_spec k a b hl hb n (i + 1) (by omega) (by omega), he]
        simp only [List.cons.injEq, true_and]
      · have e1 : (a[i] != b[i]'(by omega)) = true := by simp [he]
        rw [e1]
        simp only [List.cons.injEq, he, false_and, if_false]
    · have : decide ((i : Int) < (a.length : Int)) = false := by simpa using hlt
      simp only [this, br]
      rw [List.drop_eq_nil_of_le (by omega), List.drop_eq_nil_of_le (by omega)]
      simp

theorem F12_spec (k : Nat) (a b : List Int) (hb : a.length < 4611686018427387904) (hk : a.length < k) : F12 k a b = some (decide (a = b)) := by
  unfold F12
  by_cases hl : a.length = b.length
  · have e1 : (((a.length : Int)) != (b.length : Int)) = false := by simp [hl]
    rw [e1]
    simp only [br]
    have := F12_1_spec k a b hl hb k 0 (by omega) (by omega)
    simp only [List.drop_zero, Int.cast_ofNat_Int] at this
    rw [this]
    by_cases he : a = b <;> simp [bnd, alt, he]
  · have e1 : (((a.length : Int)) != (b.length : Int)) = true := by simpa using (by omega : ¬ (a.length : Int) = (b.length : Int))
    rw [e1]
    have : a ≠ b := fun e => hl (by rw [e])
    simp [br, this]

/-! Sum -/
def sumF : List Int → Int → Int → Int × Int
  | [], x, y => (x, y)
  | b :: l, x, y => sumF l ((x + b) % 4294967291) ((y + (x + b) % 4294967291) % 4294967291)

theorem F21_1_spec (k : Nat) (l : List Int) (hB : Bs l) (hb : l.length < 4611686018427387904) : ∀ (n i : Nat) (x y : Int), i ≤ l.length → l.length - i < n → 0 ≤ x → x < 4294967291 → 0 ≤ y → y < 4294967291 →
    F21_1 k l (l.length : Int) n x y (i : Int) = some (sumF (l.drop i) x y)
  | 0, i, x, y, _, h, _, _, _, _ => by omega
  | n + 1, i, x, y, hi, h, x0, x1, y0, y1 => by
    rw [F21_1]
    by_cases hlt : i < l.length
    · have ha : l[i]? = some l[i] := List.getElem?_eq_getElem hlt
      obtain ⟨c0, c1⟩ := hB l[i] (by simp)
      rw [at_nat, ha, drop_cons ha]
      have : decide ((i : Int) < (l.length : Int)) = true := by simpa using hlt
      simp only [this, br, bnd, Option.bind_some]
      rw [show IntKind.i64.wrap ((i : Int) + 1) = ((i + 1 : Nat) : Int) by rw [w64 (by omega) (by omega)]; simp]
      rw [wu64 (n := l[i]) (by omega) (by omega), wu64 (n := x + l[i]) (by omega) (by omega)]
      have e : Int.tmod (x + l[i]) 4294967291 = (x + l[i]) % 4294967291 := by rw [Int.tmod_eq_emod_of_nonneg (by omega)]
      rw [e]
      have e0 : 0 ≤ (x + l[i]) % 4294967291 := by omega
      have e1 : (x + l[i]) % 4294967291 < 4294967291 := by omega
      rw [wu64 (n := y + (x + l[i]) % 4294967291) (by omega) (by omega)]
      rw [Int.tmod_eq_emod_of_nonneg (by omega)]
      rw [F21_1_spec k l hB hb n (i + 1) _ _ (by omega) (by omega) e0 e1 (by omega) (by omega)]
      rfl
    · have : decide ((i : Int) < (l.length : Int)) = false := by simpa using hlt
      simp only [this, br]
      rw [List.drop_eq_nil_of_le (by omega)]
      rfl

theorem sumF_bd : ∀ (l : List Int) (x y : Int), 0 ≤ x → x < 4294967291 → 0 ≤ y → y < 4294967291 → 0 ≤ (sumF l x y).1 ∧ (sumF l x y).1 < 4294967291 ∧ 0 ≤ (sumF l x y).2 ∧ (sumF l x y).2 < 4294967291
  | [], x, y, a, b, c, d => ⟨a, b, c, d⟩
  | v :: l, x, y, a, b, c, d => sumF_bd l _ _ (by omega) (by omega) (by omega) (by omega)

def sm (l : List Int) : Int := (sumF l 1 0).2 * 4294967296 + (sumF l 1 0).1

theorem F21_spec (k : Nat) (l : List Int) (hB : Bs l) (hb : l.length < 4611686018427387904) (hk : l.length < k) : F21 k l = some (sm l) := by
  unfold F21
  have := F21_1_spec k l hB hb k 0 1 0 (by omega) (by omega) (by omega) (by omega) (by omega) (by omega)
  rw [show ((0 : Nat) : Int) = 0 from rfl] at this
  rw [this]
  obtain ⟨a, b, c, d⟩ := sumF_bd l 1 0 (by omega) (by omega) (by omega) (by omega)
  simp only [bnd, Option.bind_some, List.drop_zero, shlI]
  have e : (min (Int.toNat 32) IntKind.u64.bits) = 32 := by decide
  rw [e, wu64 (n := (sumF l 1 0).2 * 2 ^ 32) (by omega) (by omega), wu64 (by omega) (by omega)]
  simp [sm]

/-! Num -/
def leB : Nat → Int → List Int
  | 0, _ => []
  | s + 1, n => n % 256 :: leB s (n / 256)
theorem leB_length : ∀ (s : Nat) (n : Int), (leB s n).length = s
  | 0, _ => rfl
  | s + 1, n => by simp [leB, leB_length s]
theorem leB_Bs : ∀ (s : Nat) (n : Int), Bs (leB s n)
  | 0, n => by simp [leB, Bs]
  | s + 1, n => by
    intro x hx
    simp only [leB, List.mem_cons] at hx
    rcases hx with rfl | hx
    · omega
    · exact leB_Bs s _ x hx

theorem shr8 {n : Int} (h : 0 ≤ n) : shrI .u64 n 8 = n / 256 := by
  have e : (min (Int.toNat 8) IntKind.u64.bits) = 8 := by decide
  simp only [shrI, e]
  rw [Int.fdiv_eq_ediv_of_nonneg _ (by decide)]
  rfl

theorem F15_2_spec (k : Nat) (x1 : Int) (x12 : List Int) (x13 x14 : Int) (s : Nat) (hs : s ≤ 8) : ∀ (n i : Nat) (out : List Int) (v : Int), i ≤ s → s - i < n → 0 ≤ v → out.length + (s - i) ≤ 140737488355328 →
    F15_2 k x1 x12 x13 x14 (s : Int) n out v (i : Int) = some (out ++ leB (s - i) v)
  | 0, i, out, v, _, h, _, _ => by omega
  | n + 1, i, out, v, hi, h, hv, hf => by
    rw [F15_2]
    by_cases hlt : i < s
    · have : decide ((i : Int) < (s : Int)) = true := by simpa using hlt
      simp only [this, br, req]
      rw [if_pos (by simp only [fits, List.length_cons, List.length_nil]; omega), shr8 hv, wu8, show IntKind.i64.wrap ((i : Int) + 1) = ((i + 1 : Nat) : Int) by rw [w64 (by omega) (by omega)]; simp]
      rw [F15_2_spec k x1 x12 x13 x14 s hs n (i + 1) _ _ (by omega) (by omega) (by omega) (by simp; omega)]
      rw [show s - i = (s - (i + 1)) + 1 by omega]
      simp [leB]
    · have : decide ((i : Int) < (s : Int)) = false := by simpa using hlt
      simp only [this, br]
      rw [show s - i = 0 by omega]
      simp [leB]

def clampS (size : Int) : Nat := (min (max size 1) 8).toNat
theorem F40_spec (size : Int) : F40 size = some ((clampS size : Nat) : Int) := by
  simp only [F40, mnI, mxI, clampS]
  congr 1
  split <;> split <;> omega
theorem clampS_le (size : Int) : clampS size ≤ 8 := by simp only [clampS]; omega

def numsB (s : Nat) (L : List Int) : List Int := L.flatMap (leB s)

theorem F15_1_spec (k : Nat) (x1 : Int) (L : List Int) (hL : ∀ x ∈ L, 0 ≤ x) (hk : 8 < k) (hb : L.length < 4611686018427387904) : ∀ (n i : Nat) (out : List Int), i ≤ L.length → L.length - i < n → out.length + 8 * (L.length - i) ≤ 140737488355328 →
    F15_1 k x1 L (L.length : Int) n out (i : Int) = some (out ++ numsB (clampS x1) (L.drop i))
  | 0, i, out, _, h, _ => by omega
  | n + 1, i, out, hi, h, hf => by
    rw [F15_1]
    by_cases hlt : i < L.length
    · have ha : L[i]? = some L[i] := List.getElem?_eq_getElem hlt
      rw [at_nat, ha, drop_cons ha]
      have : decide ((i : Int) < (L.length : Int)) = true := by simpa using hlt
      simp only [this, br, bnd, Option.bind_some, F40_spec]
      have c := clampS_le x1
      have q := F15_2_spec k x1 L (L.length : Int) (i : Int) (clampS x1) c k 0 out L[i] (by omega) (by omega) (hL _ (by simp)) (by omega)
      simp only [Nat.sub_zero, Int.cast_ofNat_Int] at q
      rw [q]
      simp only [Option.bind_some]
      rw [show IntKind.i64.wrap ((i : Int) + 1) = ((i + 1 : Nat) : Int) by rw [w64 (by omega) (by omega)]; simp]
      rw [F15_1_spec k x1 L hL hk hb n (i + 1) _ (by omega) (by omega) (by simp [leB_length]; omega)]
      simp only [numsB, List.flatMap_cons, List.append_assoc]
    · have : decide ((i : Int) < (L.length : Int)) = false := by simpa using hlt
      simp only [this, br]
      rw [List.drop_eq_nil_of_le (by omega)]
      simp [numsB]

theorem F15_spec (k : Nat) (b : List Int) (size : Int) (L : List Int) (hL : ∀ x ∈ L, 0 ≤ x) (hk : 8 < k) (hk2 : L.length < k) (hb : L.length < 4611686018427387904) (hf : b.length + 8 * L.length ≤ 140737488355328) :
    F15 k b size L = some (b ++ numsB (clampS size) L) := by
  unfold F15 F39
  have q := F15_1_spec k size L hL hk hb k 0 b (by omega) (by omega) (by omega)
  simp only [List.drop_zero, Int.cast_ofNat_Int] at q
  simp [bnd, q]

def sealF (l : List Int) : List Int := l ++ leB 8 (sm l)
theorem sm_bd (l : List Int) : 0 ≤ sm l ∧ sm l < 18446744073709551616 := by
  obtain ⟨a, b, c, d⟩ := sumF_bd l 1 0 (by omega) (by omega) (by omega) (by omega)
  simp only [sm]; omega

theorem clamp8 : clampS 8 = 8 := by decide
theorem nums1 (s : Nat) (n : Int) : numsB s [n] = leB s n := by simp [numsB]

theorem F10_spec (k : Nat) (l : List Int) (hB : Bs l) (hf : l.length + 8 ≤ 140737488355328) (hk : l.length < k) (hk8 : 8 < k) : F10 k l = some (sealF l) := by
  unfold F10
  rw [F21_spec k l hB (by omega) hk]
  simp only [bnd, Option.bind_some]
  rw [F15_spec k l 8 [sm l] (by simpa using (sm_bd l).1) hk8 (by simp; omega) (by simp) (by simp; omega)]
  simp [sealF, clamp8, nums1]

def unsealF (l : List Int) : List Int × Int :=
  if l.length < 8 then ([], 30)
  else if l.drop (l.length - 8) = leB 8 (sm (l.take (l.length - 8))) then (l.take (l.length - 8), 0) else ([], 33)

theorem Bs.take {l : List Int} (h : Bs l) (n : Nat) : Bs (l.take n) := fun x hx => h x (List.mem_of_mem_take hx)
theorem Bs.drop {l : List Int} (h : Bs l) (n : Nat) : Bs (l.drop n) := fun x hx => h x (List.mem_of_mem_drop hx)

theorem F11_spec (k : Nat) (l : List Int) (hB : Bs l) (hf : l.length ≤ 140737488355328) (hk : l.length < k) (hk8 : 8 < k) : F11 k l = some (unsealF l) := by
  unfold F11 unsealF
  rw [w64 (n := (l.length : Int) - 8) (by omega) (by omega)]
  by_cases h8 : l.length < 8
  · have : decide ((l.length : Int) - 8 < 0) = true := by simp; omega
    simp only [this, br, h8, if_true]
  · have : decide ((l.length : Int) - 8 < 0) = false := by simp; omega
    simp only [this, br, req, h8, if_false]
    have e : ((l.length : Int) - 8).toNat = l.length - 8 := by omega
    rw [if_pos (by simp only [cutOk]; omega), if_pos (by simp only [cutOk]; omega)]
    simp only [cut, e]
    rw [F21_spec k _ (hB.take _) (by simp; omega) (by simp; omega)]
    simp only [bnd, Option.bind_some]
    rw [F15_spec k [] 8 [sm (l.take (l.length - 8))] (by simpa using (sm_bd _).1) hk8 (by simp; omega) (by simp) (by simp)]
    simp only [Option.bind_some, clamp8, nums1, List.nil_append]
    rw [F12_spec k _ _ (by simp; omega) (by simp; omega)]
    simp only [Option.bind_some]
    by_cases he : l.drop (l.length - 8) = leB 8 (sm (l.take (l.length - 8)))
    · simp only [he, decide_true, Bool.not_true, if_true, F13, req]
      rw [if_pos (by simp only [fits, List.length_nil, List.length_take]; omega)]
      rfl
    · simp only [he, decide_false, Bool.not_false, if_false]

theorem F9_spec (k : Nat) (hk : 8 < k) : F9 k = some true := by
  unfold F9
  rw [F15_spec k [] 2 [300] (by simp) hk (by simp; omega) (by simp) (by simp)]
  have e : ([] : List Int) ++ numsB (clampS 2) [300] = [44, 1] := by decide
  simp only [bnd, Option.bind_some, e]
  rw [F12_spec k _ _ (by simp) (by simp; omega)]
  simp only [Option.bind_some, decide_true, br]
  rw [F21_spec k [] (by simp [Bs]) (by simp) (by simp; omega)]
  simp only [Option.bind_some]
  have e1 : (sm [] == 1) = true := by decide
  rw [e1]
  simp only []
  rw [F21_spec k [5] (by simp [Bs]) (by simp) (by simp; omega)]
  have e2 : (sm [5] == 25769803782) = true := by decide
  simp only [Option.bind_some, e2]

/-! Damage. -/
theorem leB_inj : ∀ (s : Nat) (a b : Int), 0 ≤ a → a < 256 ^ s → 0 ≤ b → b < 256 ^ s → leB s a = leB s b → a = b
  | 0, a, b, a0, a1, b0, b1, _ => by simp at a1 b1; omega
  | s + 1, a, b, a0, a1, b0, b1, h => by
    simp only [leB, List.cons.injEq] at h
    have p : (256 : Int) ^ (s + 1) = 256 ^ s * 256 := by rw [Int.pow_succ]
    rw [p] at a1 b1
    have := leB_inj s (a / 256) (b / 256) (by omega) (by omega) (by omega) (by omega) h.2
    omega

theorem sumF_fst : ∀ (l : List Int) (x y : Int), 0 ≤ x → x < 4294967291 → (sumF l x y).1 = (x + l.sum) % 4294967291
  | [], x, y, h0, h1 => by simp [sumF]; omega
  | b :: l, x, y, h0, h1 => by
    simp only [sumF]
    rw [sumF_fst l _ _ (by omega) (by omega)]
    simp only [List.sum_cons]
    omega

theorem sum_set (l : List Int) (j : Nat) (v w : Int) (h : l[j]? = some v) : (l.set j w).sum = l.sum - v + w := by
  induction l generalizing j with
  | nil => simp at h
  | cons a l ih =>
    cases j with
    | zero => simp at h; subst h; simp; omega
    | succ j => simp at h; simp [ih j h]; omega

theorem xor8 {x y : Int} (x0 : 0 ≤ x) (x1 : x < 256) (y0 : 0 ≤ y) (y1 : y < 256) : 0 ≤ bitsI .xor .u8 x y ∧ bitsI .xor .u8 x y < 256 ∧ (bitsI .xor .u8 x y = x ↔ y = 0) := by
  have hb : IntKind.u8.bits = 8 := rfl
  have e : bitsI .xor .u8 x y = ((BitVec.ofInt 8 x ^^^ BitVec.ofInt 8 y).toNat : Int) := by
    simp only [bitsI]
    rw [wu8]
    have := (BitVec.ofInt IntKind.u8.bits x ^^^ BitVec.ofInt IntKind.u8.bits y).isLt
    rw [hb] at this ⊢
    omega
  rw [e]
  have lt := (BitVec.ofInt 8 x ^^^ BitVec.ofInt 8 y).isLt
  refine ⟨by omega, by omega, ?_⟩
  have ex : ((BitVec.ofInt 8 x).toNat : Int) = x := by simp [BitVec.toNat_ofInt]; omega
  have ey : ((BitVec.ofInt 8 y).toNat : Int) = y := by simp [BitVec.toNat_ofInt]; omega
  constructor
  · intro h
    have h2 : (BitVec.ofInt 8 x ^^^ BitVec.ofInt 8 y).toNat = (BitVec.ofInt 8 x).toNat := by omega
    have h3 : BitVec.ofInt 8 x ^^^ BitVec.ofInt 8 y = BitVec.ofInt 8 x := BitVec.eq_of_toNat_eq h2
    have h4 : BitVec.ofInt 8 y = 0#8 := by
      have := congrArg (fun z => BitVec.ofInt 8 x ^^^ z) h3
      simpa [← BitVec.xor_assoc] using this
    rw [h4] at ey
    simpa using ey.symm
  · rintro rfl
    have : BitVec.ofInt 8 0 = 0#8 := rfl
    rw [this]
    simpa using ex

theorem unseal_seal (l : List Int) : unsealF (sealF l) = (l, 0) := by
  have h : (sealF l).length = l.length + 8 := by simp [sealF, leB_length]
  unfold unsealF
  rw [h, if_neg (by omega)]
  simp [sealF]

theorem unseal_set (l : List Int) (hB : Bs l) (j : Nat) (v w : Int) (h : (sealF l)[j]? = some v) (w0 : 0 ≤ w) (w1 : w < 256) : (unsealF ((sealF l).set j w)).2 = if w = v then 0 else 33 := by
  have hl : (sealF l).length = l.length + 8 := by simp [sealF, leB_length]
  by_cases hw : w = v
  · subst hw
    have : (sealF l).set j w = sealF l := by
      apply List.ext_getElem?
      intro i
      rw [List.getElem?_set]
      split
      · rename_i e; subst e; rw [if_pos (lt_of_get h), h]
      · rfl
    rw [this, unseal_seal]; simp
  · rw [if_neg hw]
    unfold unsealF
    rw [List.length_set, hl, if_neg (by omega)]
    simp only [Nat.add_sub_cancel]
    rw [if_neg]
    intro he
    have hj := lt_of_get h
    rw [hl] at hj
    by_cases hjl : j < l.length
    · have e1 : ((sealF l).set j w).take l.length = l.set j w := by
        simp only [sealF]
        rw [List.set_append_left _ _ hjl, List.take_left' (by simp)]
      have e2 : ((sealF l).set j w).drop l.length = leB 8 (sm l) := by
        simp only [sealF]
        rw [List.set_append_left _ _ hjl, List.drop_left' (by simp)]
      rw [e1, e2] at he
      have := leB_inj 8 _ _ (sm_bd l).1 (sm_bd l).2 (sm_bd _).1 (sm_bd _).2 he
      have hv : l[j]? = some v := by simpa [sealF, List.getElem?_append_left hjl] using h
      obtain ⟨a, b, c, d⟩ := sumF_bd l 1 0 (by omega) (by omega) (by omega) (by omega)
      obtain ⟨a', b', c', d'⟩ := sumF_bd (l.set j w) 1 0 (by omega) (by omega) (by omega) (by omega)
      have e3 : (sumF l 1 0).1 = (sumF (l.set j w) 1 0).1 := by simp only [sm] at this; omega
      rw [sumF_fst _ _ _ (by omega) (by omega), sumF_fst _ _ _ (by omega) (by omega), sum_set l j v w hv] at e3
      obtain ⟨v0, v1⟩ := hB v (List.mem_of_getElem? hv)
      omega
    · have e1 : ((sealF l).set j w).take l.length = l := by
        simp only [sealF]
        rw [List.set_append_right _ _ (by omega), List.take_left' rfl]
      have e2 : ((sealF l).set j w).drop l.length = (leB 8 (sm l)).set (j - l.length) w := by
        simp only [sealF]
        rw [List.set_append_right _ _ (by omega), List.drop_left' rfl]
      rw [e1, e2] at he
      have hv : (leB 8 (sm l))[j - l.length]? = some v := by simpa [sealF, List.getElem?_append_right (by omega : l.length ≤ j)] using h
      have := congrArg (fun z => z[j - l.length]?) he
      simp only [List.getElem?_set_self (lt_of_get hv), hv] at this
      exact hw (Option.some.inj this)

theorem sealF_Bs {l : List Int} (h : Bs l) : Bs (sealF l) := by
  intro x hx
  rcases List.mem_append.1 hx with hx | hx
  · exact h x hx
  · exact leB_Bs _ _ x hx

theorem Bs.set {l : List Int} (h : Bs l) (j : Nat) {w : Int} (w0 : 0 ≤ w) (w1 : w < 256) : Bs (l.set j w) := by
  intro x hx
  rcases List.mem_or_eq_of_mem_set hx with hx | rfl
  · exact h x hx
  · exact ⟨w0, w1⟩

theorem sealed (l : List Int) (a1 a2 : Int) (hn : l.length ≤ 140737488351232) (hB : Bs l) (p0 : 0 ≤ a1) (p1 : a1 < 65536) (q0 : 0 ≤ a2) (q1 : a2 < 256) : F3 (l.length + 20) l a1 a2 = some true := by
  have hl : (sealF l).length = l.length + 8 := by simp [sealF, leB_length]
  unfold F3
  rw [F9_spec _ (by omega)]
  simp only [bnd, Option.bind_some, Bool.not_true, br]
  rw [F10_spec _ l hB (by omega) (by omega) (by omega)]
  simp only [Option.bind_some]
  rw [F11_spec _ _ (sealF_Bs hB) (by omega) (by omega) (by omega), unseal_seal]
  simp only [Option.bind_some, bne_self_eq_false]
  rw [F12_spec _ _ _ (by omega) (by omega)]
  simp only [Option.bind_some, decide_true, Bool.not_true, F13, req]
  rw [if_pos (by simp only [fits, List.length_nil]; omega)]
  simp only [Option.bind_some]
  rw [if_pos (by omega), w64 (by omega) (by omega)]
  have em : Int.tmod a1 ((sealF l).length : Int) = ((a1.toNat % (sealF l).length : Nat) : Int) := by
    rw [Int.tmod_eq_emod_of_nonneg p0, Int.natCast_emod, Int.toNat_of_nonneg p0]
  rw [em, at_nat]
  have hj : a1.toNat % (sealF l).length < (sealF l).length := Nat.mod_lt _ (by omega)
  rw [List.getElem?_eq_getElem hj]
  simp only [Option.bind_some, Int.toNat_natCast]
  generalize hjj : a1.toNat % (sealF l).length = j at hj
  have hv : (sealF l)[j]? = some (sealF l)[j] := List.getElem?_eq_getElem hj
  obtain ⟨v0, v1⟩ := sealF_Bs hB _ (List.mem_of_getElem? hv)
  obtain ⟨x0, x1, x2⟩ := xor8 v0 v1 q0 q1
  rw [F11_spec _ _ ((sealF_Bs hB).set _ x0 x1) (by simp; omega) (by simp; omega) (by omega)]
  simp only [Option.bind_some]
  rw [unseal_set l hB j _ _ hv x0 x1]
  by_cases h0 : a2 = 0
  · rw [if_pos (x2.2 h0)]
    simp [h0]
  · rw [if_neg (fun e => h0 (x2.1 e))]
    have : (a2 == 0) = false := by simpa using h0
    simp [this]
end Go.Ev
