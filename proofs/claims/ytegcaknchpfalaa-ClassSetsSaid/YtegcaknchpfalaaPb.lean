/- Plain laws of the printed functions of this seat. Conditions: none beyond each theorem's own. -/
import Derived.Test.YtegcaknchpfalaaPa2
import Derived.Laws.Closers25
set_option linter.unusedVariables false
set_option linter.unusedSimpArgs false
namespace Go.Ev
theorem w64 {n : Int} (h0 : -9223372036854775808 ≤ n) (h1 : n < 9223372036854775808) : IntKind.i64.wrap n = n := by
  simp [IntKind.wrap, IntKind.bits, IntKind.signed]; split <;> omega
theorem w64n (n : Nat) (h1 : n < 9223372036854775808) : IntKind.i64.wrap (n : Int) = (n : Int) := w64 (by omega) (by omega)
theorem wu64 {n : Int} (h0 : 0 ≤ n) (h1 : n < 18446744073709551616) : IntKind.u64.wrap n = n := by
  simp [IntKind.wrap, IntKind.bits, IntKind.signed]; omega
theorem wu8 (n : Int) : IntKind.u8.wrap n = n % 256 := by simp [IntKind.wrap, IntKind.bits, IntKind.signed]
theorem wu8n {n : Nat} (h : n < 256) : IntKind.u8.wrap (n : Int) = (n : Int) := by rw [wu8]; omega
theorem at_nat {α : Type} (xs : List α) (i : Nat) : at? xs (i : Int) = xs[i]? := by simp [at?]
theorem br_true {α : Type} (a b : Option α) : br true a b = a := rfl
theorem br_false {α : Type} (a b : Option α) : br false a b = b := rfl
theorem bnd_some' {α β : Type} (a : α) (f : α → Option β) : bnd (some a) f = f a := rfl
theorem req_pos {α : Type} {p : Prop} [Decidable p] (h : p) (a : Option α) : req p a = a := by simp [req, h]
theorem drop_cons {α : Type} {l : List α} {i : Nat} {x : α} (h : l[i]? = some x) : l.drop i = x :: l.drop (i + 1) := by
  have hi := lt_of_get h
  rw [List.getElem?_eq_getElem hi] at h
  cases h
  exact List.drop_eq_getElem_cons hi
theorem step1 (i : Nat) (h : i < 4611686018427387904) : IntKind.i64.wrap ((i : Int) + 1) = ((i + 1 : Nat) : Int) := by rw [w64 (by omega) (by omega)]; simp

theorem byteNums : ∀ n : Nat, n < 256 → shrI .u8 (n : Int) 6 = ((n / 64 : Nat) : Int) ∧ bitsI .and .u8 (n : Int) 63 = ((n % 64 : Nat) : Int) ∧ IntKind.u8.wrap (Int.tdiv (n : Int) 64) = ((n / 64 : Nat) : Int) ∧ Int.tmod (n : Int) 64 = ((n % 64 : Nat) : Int) ∧
    shrI .i64 (n : Int) 6 = ((n / 64 : Nat) : Int) ∧ bitsI .and .i64 (n : Int) 63 = ((n % 64 : Nat) : Int) := by decide +kernel
theorem shl1 : ∀ s : Nat, s < 64 → shlI .u64 1 (s : Int) = ((2 ^ s : Nat) : Int) := by decide +kernel

theorem or64 (m n : Nat) (hm : m < 18446744073709551616) (hn : n < 18446744073709551616) : bitsI .or .u64 (m : Int) (n : Int) = ((m ||| n : Nat) : Int) := by
  have hlt : m ||| n < 2 ^ 64 := Nat.or_lt_two_pow (by simpa using hm) (by simpa using hn)
  show IntKind.u64.wrap (((BitVec.ofInt 64 (m : Int) ||| BitVec.ofInt 64 (n : Int)).toNat : Nat) : Int) = _
  simp only [BitVec.ofInt_natCast, BitVec.toNat_or, BitVec.toNat_ofNat]
  rw [Nat.mod_eq_of_lt (by simpa using hm), Nat.mod_eq_of_lt (by simpa using hn)]
  exact wu64 (by omega) (by simp at hlt; omega)
theorem and64 (m n : Nat) (hm : m < 18446744073709551616) (hn : n < 18446744073709551616) : bitsI .and .u64 (m : Int) (n : Int) = ((m &&& n : Nat) : Int) := by
  have hlt : m &&& n < 2 ^ 64 := Nat.and_lt_two_pow _ (by simpa using hn)
  show IntKind.u64.wrap (((BitVec.ofInt 64 (m : Int) &&& BitVec.ofInt 64 (n : Int)).toNat : Nat) : Int) = _
  simp only [BitVec.ofInt_natCast, BitVec.toNat_and, BitVec.toNat_ofNat]
  rw [Nat.mod_eq_of_lt (by simpa using hm), Nat.mod_eq_of_lt (by simpa using hn)]
  exact wu64 (by omega) (by simp at hlt; omega)
theorem xor64 (m n : Nat) (hm : m < 18446744073709551616) (hn : n < 18446744073709551616) : bitsI .xor .u64 (m : Int) (n : Int) = ((m ^^^ n : Nat) : Int) := by
  have hlt : m ^^^ n < 2 ^ 64 := Nat.xor_lt_two_pow (by simpa using hm) (by simpa using hn)
  show IntKind.u64.wrap (((BitVec.ofInt 64 (m : Int) ^^^ BitVec.ofInt 64 (n : Int)).toNat : Nat) : Int) = _
  simp only [BitVec.ofInt_natCast, BitVec.toNat_xor, BitVec.toNat_ofNat]
  rw [Nat.mod_eq_of_lt (by simpa using hm), Nat.mod_eq_of_lt (by simpa using hn)]
  exact wu64 (by omega) (by simp at hlt; omega)
theorem shr64 (m s : Nat) (hs : s ≤ 64) : shrI .u64 (m : Int) (s : Int) = ((m >>> s : Nat) : Int) := by
  simp only [shrI, IntKind.bits, Int.toNat_natCast, Nat.min_eq_left hs, Nat.shiftRight_eq_div_pow]
  rw [Int.fdiv_eq_ediv_of_nonneg _ (by have : (0:Int) < 2 ^ s := Int.pow_pos (by omega); omega)]
  simp

def BT (a : Nat → Int) (i : Nat) : Bool := (a (i / 64)).toNat.testBit (i % 64)
def WF (a : Nat → Int) : Prop := ∀ j, j < 4 → 0 ≤ a j ∧ a j < 18446744073709551616
def Is (a : Nat → Int) (f : Nat → Bool) : Prop := WF a ∧ ∀ i, i < 256 → BT a i = f i
def nf (a : Nat → Int) (j : Nat) : Nat := (a j).toNat
theorem WF.nat {a : Nat → Int} (h : WF a) {j : Nat} (hj : j < 4) : a j = (nf a j : Int) ∧ nf a j < 18446744073709551616 := by
  have := h j hj; unfold nf; omega
theorem Is.self {a : Nat → Int} (h : WF a) : Is a (BT a) := ⟨h, fun _ _ => rfl⟩
theorem Is.congr {a : Nat → Int} {f g : Nat → Bool} (h : Is a f) (e : ∀ i, i < 256 → f i = g i) : Is a g := ⟨h.1, fun i hi => (h.2 i hi).trans (e i hi)⟩
theorem Is.of {a b : Nat → Int} {f : Nat → Bool} (ha : Is a f) (hb : Is b f) : ∀ j, j < 4 → a j = b j := by
  intro j hj
  obtain ⟨a1, a2⟩ := ha.1.nat hj
  obtain ⟨b1, b2⟩ := hb.1.nat hj
  have : nf a j = nf b j := by
    apply Nat.eq_of_testBit_eq
    intro i
    by_cases hi : i < 64
    · have h1 := ha.2 (64 * j + i) (by omega)
      have h2 := hb.2 (64 * j + i) (by omega)
      unfold BT at h1 h2
      rw [show (64 * j + i) / 64 = j by omega, show (64 * j + i) % 64 = i by omega] at h1 h2
      unfold nf
      rw [h1, h2]
    · have p : 18446744073709551616 ≤ 2 ^ i := Nat.pow_le_pow_right (n := 2) (by omega) (show 64 ≤ i by omega)
      rw [Nat.testBit_lt_two_pow (by omega), Nat.testBit_lt_two_pow (by omega)]
  rw [a1, b1, this]
def eqA (a b : Nat → Int) : Bool := (List.range 4).all fun j => ((a j : Int) == (b j))
theorem eqA_iff {a b : Nat → Int} : eqA a b = true ↔ ∀ j, j < 4 → a j = b j := by
  simp [eqA]
theorem Is.eqA {a b : Nat → Int} {f g : Nat → Bool} (ha : Is a f) (hb : Is b g) : eqA a b = true ↔ ∀ i, i < 256 → f i = g i := by
  rw [eqA_iff]
  constructor
  · intro h i hi
    rw [← ha.2 i hi, ← hb.2 i hi]
    unfold BT
    rw [h _ (by omega)]
  · intro h
    exact Is.of (ha.congr h) hb
theorem Is.same {a b : Nat → Int} {f : Nat → Bool} (ha : Is a f) (hb : Is b f) : ((List.range 4).all fun j => ((a j : Int) == (b j))) = true := eqA_iff.2 (Is.of ha hb)
theorem Is.dec {a b : Nat → Int} {f g : Nat → Bool} (ha : Is a f) (hb : Is b g) : ((List.range 4).all fun j => ((a j : Int) == (b j))) = true ↔ ∀ i, i < 256 → f i = g i := Is.eqA ha hb
theorem Is.zero : Is (fun _ => (0 : Int)) (fun _ => false) := ⟨fun j _ => by simp, fun i _ => by simp [BT]⟩
theorem Is.add {a : Nat → Int} {f : Nat → Bool} (h : Is a f) {b : Nat} (hb : b < 256) : Is (upd a (b / 64) (bitsI .or .u64 (a (b / 64)) (shlI .u64 1 ((b % 64 : Nat) : Int)))) (fun i => f i || i == b) := by
  obtain ⟨n1, n2⟩ := h.1.nat (j := b / 64) (by omega)
  have p : 2 ^ (b % 64) < 18446744073709551616 := by
    have : 2 ^ (b % 64) < 2 ^ 64 := Nat.pow_lt_pow_right (by omega) (by omega)
    simpa using this
  have e : bitsI .or .u64 (a (b / 64)) (shlI .u64 1 ((b % 64 : Nat) : Int)) = ((nf a (b / 64) ||| 2 ^ (b % 64) : Nat) : Int) := by
    rw [shl1 _ (by omega), n1, or64 _ _ n2 p]
  rw [e]
  have q : nf a (b / 64) ||| 2 ^ (b % 64) < 2 ^ 64 := Nat.or_lt_two_pow (by simpa using n2) (by simpa using p)
  refine ⟨fun j hj => ?_, fun i hi => ?_⟩
  · simp only [upd]
    split
    · simp at q; omega
    · exact h.1 j hj
  · have h1 := h.2 i hi
    unfold BT at h1 ⊢
    simp only [upd]
    by_cases hij : i / 64 = b / 64
    · rw [if_pos hij, Int.toNat_natCast, Nat.testBit_or, Nat.testBit_two_pow]
      rw [hij] at h1
      unfold nf
      rw [h1]
      congr 1
      by_cases hb' : i = b
      · subst hb'; simp
      · have : ¬ b % 64 = i % 64 := by omega
        simp [this, hb']
    · rw [if_neg hij, h1]
      have : i ≠ b := by rintro rfl; exact hij rfl
      simp [this]

theorem testBit_and1 (m s : Nat) : (m >>> s &&& 1 = 1) ↔ m.testBit s = true := by
  simp [Nat.testBit, Nat.and_comm]

theorem F14_spec {a : Nat → Int} {f : Nat → Bool} (h : Is a f) {b : Nat} (hb : b < 256) : F14 a (b : Int) = some (f b) := by
  obtain ⟨n1, n2⟩ := h.1.nat (j := b / 64) (by omega)
  obtain ⟨e1, e2, _⟩ := byteNums b hb
  unfold F14
  rw [e1, e2, req_pos (by unfold arrOk; omega), req_pos (by omega), Int.toNat_natCast, n1, shr64 _ _ (by omega)]
  have hlt : nf a (b / 64) >>> (b % 64) < 18446744073709551616 := Nat.lt_of_le_of_lt (Nat.shiftRight_le _ _) n2
  have e3 : bitsI .and .u64 ((nf a (b / 64) >>> (b % 64) : Nat) : Int) 1 = ((nf a (b / 64) >>> (b % 64) &&& 1 : Nat) : Int) := and64 _ 1 hlt (by omega)
  rw [e3, ← h.2 b hb]
  congr 1
  unfold BT
  have := testBit_and1 (nf a (b / 64)) (b % 64)
  unfold nf at this ⊢
  cases hc : (a (b / 64)).toNat.testBit (b % 64)
  · rw [hc] at this
    simp only [Bool.false_eq_true, iff_false] at this
    simp only [beq_eq_false_iff_ne, ne_eq]
    omega
  · rw [hc] at this
    have := this.2 rfl
    rw [this]; rfl
def cs (l : List Nat) : List Int := l.map fun (n : Nat) => (n : Int)
theorem cs_get (l : List Nat) (i : Nat) : (cs l)[i]? = (l[i]?).map fun (n : Nat) => (n : Int) := by simp [cs]
theorem cs_len (l : List Nat) : (cs l).length = l.length := by simp [cs]
def Bn (l : List Nat) : Prop := ∀ x ∈ l, x < 256
theorem F26_1_spec (k : Nat) (l : List Nat) (hl : l.length < 4611686018427387904) (hB : Bn l) (o : Nat → Int) : ∀ (n i : Nat) (a : Nat → Int) (f : Nat → Bool), i ≤ l.length → l.length - i < n → Is a f →
    ∃ v, F26_1 k (cs l) (l.length : Int) o n (i : Int) a = some v ∧ Is v (fun x => f x || (l.drop i).contains x)
  | 0, i, a, f, _, h, _ => by omega
  | n + 1, i, a, f, hi, h, hI => by
    rw [F26_1]
    by_cases hlt : i < l.length
    · have ha : l[i]? = some l[i] := List.getElem?_eq_getElem hlt
      have hb : l[i] < 256 := hB _ (List.getElem_mem hlt)
      have : decide ((i : Int) < (l.length : Int)) = true := by simpa using hlt
      rw [this, br_true, at_nat, cs_get, ha]
      simp only [Option.map_some, bnd_some']
      obtain ⟨e1, e2, _⟩ := byteNums l[i] hb
      rw [e1, e2, req_pos (by unfold arrOk; omega), req_pos (by omega), Int.toNat_natCast, step1 i (by omega)]
      obtain ⟨v, h1, h2⟩ := F26_1_spec k l hl hB o n (i + 1) _ _ (by omega) (by omega) (hI.add hb)
      refine ⟨v, h1, h2.congr fun x _ => ?_⟩
      rw [drop_cons ha, List.contains_cons, Bool.or_assoc]
    · have : decide ((i : Int) < (l.length : Int)) = false := by simpa using hlt
      rw [this, br_false]
      exact ⟨a, rfl, hI.congr fun x _ => by rw [List.drop_eq_nil_of_le (by omega)]; simp⟩
theorem F26_spec (k : Nat) (l : List Nat) (hl : l.length < 4611686018427387904) (hB : Bn l) (hk : l.length < k) : ∃ v, F26 k (cs l) = some v ∧ Is v (fun x => l.contains x) := by
  obtain ⟨v, h1, h2⟩ := F26_1_spec k l hl hB (fun _ => (0 : Int)) k 0 _ _ (by omega) (by omega) Is.zero
  refine ⟨v, ?_, h2.congr fun x _ => by simp⟩
  unfold F26
  rw [cs_len]
  simp only [Int.cast_ofNat_Int] at h1
  rw [h1]; rfl
theorem F28_1_spec (k : Nat) (hi : Nat) (hh : hi < 256) (o : Nat → Int) : ∀ (n i : Nat) (a : Nat → Int) (f : Nat → Bool), 256 - i < n → i ≤ 256 → Is a f →
    ∃ v, F28_1 k (hi : Int) o n (i : Int) a = some v ∧ Is v (fun x => f x || (decide (i ≤ x) && decide (x ≤ hi)))
  | 0, i, a, f, h, _, _ => by omega
  | n + 1, i, a, f, h, hi6, hI => by
    rw [F28_1, w64n hi (by omega)]
    by_cases hlt : i ≤ hi
    · have hb : i < 256 := by omega
      have : decide ((i : Int) ≤ (hi : Int)) = true := by simpa using hlt
      rw [this, br_true]
      obtain ⟨_, _, _, _, e1, e2⟩ := byteNums i hb
      rw [e1, e2, req_pos (by unfold arrOk; omega), req_pos (by omega), Int.toNat_natCast, step1 i (by omega)]
      obtain ⟨v, h1, h2⟩ := F28_1_spec k hi hh o n (i + 1) _ _ (by omega) (by omega) (hI.add hb)
      refine ⟨v, h1, h2.congr fun x _ => ?_⟩
      rw [Bool.or_assoc]
      congr 1
      by_cases hx : x = i
      · subst hx; simp [hlt]
      · have : (i + 1 ≤ x) ↔ (i ≤ x) := by omega
        simp [hx, this]
    · have : decide ((i : Int) ≤ (hi : Int)) = false := by simpa using hlt
      rw [this, br_false]
      refine ⟨a, rfl, hI.congr fun x _ => ?_⟩
      have : (decide (i ≤ x) && decide (x ≤ hi)) = false := by
        simp; omega
      rw [this]; simp
theorem F28_spec (k lo hi : Nat) (hl : lo < 256) (hh : hi < 256) (hk : 256 < k) : ∃ v, F28 k (lo : Int) (hi : Int) = some v ∧ Is v (fun x => decide (lo ≤ x) && decide (x ≤ hi)) := by
  obtain ⟨v, h1, h2⟩ := F28_1_spec k hi hh (fun _ => (0 : Int)) k lo _ _ (by omega) (by omega) Is.zero
  refine ⟨v, ?_, h2.congr fun x _ => by simp⟩
  unfold F28
  rw [w64n lo (by omega), h1]; rfl
theorem four {p : Nat → Prop} (h0 : p 0) (h1 : p 1) (h2 : p 2) (h3 : p 3) : ∀ j, j < 4 → p j := by
  intro j hj
  have : j = 0 ∨ j = 1 ∨ j = 2 ∨ j = 3 := by omega
  rcases this with rfl | rfl | rfl | rfl <;> assumption
theorem F25_1_spec (k n : Nat) (x o1 o2 o : Nat → Int) : ∃ v, F25_1 k x o1 o2 (n + 5) 0 o = some v ∧ ∀ j, j < 4 → v j = bitsI .and .u64 (o j) (x j) :=
  ⟨_, rfl, four rfl rfl rfl rfl⟩
theorem F24_2_spec (k n : Nat) (x8 : List (Nat → Int)) (x9 x10 : Int) (x o1 o2 o : Nat → Int) : ∃ v, F24_2 k x8 x9 x10 x o1 o2 (n + 5) 0 o = some v ∧ ∀ j, j < 4 → v j = bitsI .or .u64 (o j) (x j) :=
  ⟨_, rfl, four rfl rfl rfl rfl⟩
theorem F40_1_spec (k n : Nat) (o1 o : Nat → Int) : ∃ v, F40_1 k o1 (n + 5) 0 o = some v ∧ ∀ j, j < 4 → v j = bitsI .xor .u64 18446744073709551615 (o j) :=
  ⟨_, rfl, four rfl rfl rfl rfl⟩
theorem Is.two {a b v : Nat → Int} {f g : Nat → Bool} (ha : Is a f) (hb : Is b g) (op : Nat → Nat → Nat) (ob : Bool → Bool → Bool)
    (hop : ∀ m n i, (op m n).testBit i = ob (m.testBit i) (n.testBit i)) (h64 : ∀ m n, m < 18446744073709551616 → n < 18446744073709551616 → op m n < 18446744073709551616)
    (h : ∀ j, j < 4 → v j = ((op (nf a j) (nf b j) : Nat) : Int)) : Is v (fun i => ob (f i) (g i)) := by
  refine ⟨fun j hj => ?_, fun i hi => ?_⟩
  · rw [h j hj]
    have := h64 _ _ (ha.1.nat hj).2 (hb.1.nat hj).2
    omega
  · unfold BT
    rw [h _ (by omega), Int.toNat_natCast, hop]
    show _ = ob (f i) (g i)
    rw [← ha.2 i hi, ← hb.2 i hi]
    rfl
theorem Is.or {a b v : Nat → Int} {f g : Nat → Bool} (ha : Is a f) (hb : Is b g) (h : ∀ j, j < 4 → v j = bitsI .or .u64 (a j) (b j)) : Is v (fun i => f i || g i) := by
  refine Is.two ha hb (· ||| ·) (· || ·) (fun m n i => Nat.testBit_or m n i) (fun m n hm hn => by have := Nat.or_lt_two_pow (n := 64) (x := m) (y := n) (by simpa using hm) (by simpa using hn); simpa using this) fun j hj => ?_
  obtain ⟨a1, a2⟩ := ha.1.nat hj
  obtain ⟨b1, b2⟩ := hb.1.nat hj
  rw [h j hj, a1, b1, or64 _ _ a2 b2]
theorem Is.and {a b v : Nat → Int} {f g : Nat → Bool} (ha : Is a f) (hb : Is b g) (h : ∀ j, j < 4 → v j = bitsI .and .u64 (a j) (b j)) : Is v (fun i => f i && g i) := by
  refine Is.two ha hb (· &&& ·) (· && ·) (fun m n i => Nat.testBit_and m n i) (fun m n hm hn => by have := Nat.and_lt_two_pow (n := 64) m (y := n) (by simpa using hn); simpa using this) fun j hj => ?_
  obtain ⟨a1, a2⟩ := ha.1.nat hj
  obtain ⟨b1, b2⟩ := hb.1.nat hj
  rw [h j hj, a1, b1, and64 _ _ a2 b2]
theorem Is.not {a v : Nat → Int} {f : Nat → Bool} (ha : Is a f) (h : ∀ j, j < 4 → v j = bitsI .xor .u64 18446744073709551615 (a j)) : Is v (fun i => !f i) := by
  refine ⟨fun j hj => ?_, fun i hi => ?_⟩
  · obtain ⟨a1, a2⟩ := ha.1.nat hj
    rw [h j hj, a1, show (18446744073709551615 : Int) = ((18446744073709551615 : Nat) : Int) from rfl, xor64 _ _ (by omega) a2]
    have := Nat.xor_lt_two_pow (n := 64) (x := 18446744073709551615) (y := nf a j) (by decide) (by simpa using a2)
    simp at this; omega
  · obtain ⟨a1, a2⟩ := ha.1.nat (j := i / 64) (by omega)
    unfold BT
    rw [h _ (by omega), a1, show (18446744073709551615 : Int) = ((18446744073709551615 : Nat) : Int) from rfl, xor64 _ _ (by omega) a2, Int.toNat_natCast, Nat.testBit_xor]
    show _ = !f i
    rw [← ha.2 i hi]
    have : Nat.testBit 18446744073709551615 (i % 64) = true := by
      have := Nat.testBit_two_pow_sub_one 64 (i % 64)
      simp at this
      rw [this]; simp; omega
    rw [this]; simp [BT, nf]

theorem F25_spec (k : Nat) {a b : Nat → Int} {f g : Nat → Bool} (ha : Is a f) (hb : Is b g) (hk : 4 < k) : ∃ v, F25 k a b = some v ∧ Is v (fun i => f i && g i) := by
  obtain ⟨n, rfl⟩ : ∃ n, k = n + 5 := ⟨k - 5, by omega⟩
  obtain ⟨v, h1, h2⟩ := F25_1_spec (n + 5) n b b (fun _ => 0) a
  exact ⟨v, by unfold F25; rw [h1]; rfl, ha.and hb h2⟩
theorem F40_spec (k : Nat) {a : Nat → Int} {f : Nat → Bool} (ha : Is a f) (hk : 4 < k) : ∃ v, F40 k a = some v ∧ Is v (fun i => !f i) := by
  obtain ⟨n, rfl⟩ : ∃ n, k = n + 5 := ⟨k - 5, by omega⟩
  obtain ⟨v, h1, h2⟩ := F40_1_spec (n + 5) n (fun _ => 0) a
  exact ⟨v, by unfold F40; rw [h1]; rfl, ha.not h2⟩
def WFs (l : List (Nat → Int)) : Prop := ∀ a ∈ l, WF a
theorem F24_1_spec (k : Nat) (hk : 4 < k) (l : List (Nat → Int)) (hl : l.length < 4611686018427387904) (hW : WFs l) (o : Nat → Int) : ∀ (n i : Nat) (a : Nat → Int) (f : Nat → Bool), i ≤ l.length → l.length - i < n → Is a f →
    ∃ v, F24_1 k l (l.length : Int) o n (i : Int) a = some v ∧ Is v (fun x => f x || (l.drop i).any fun c => BT c x)
  | 0, i, a, f, _, h, _ => by omega
  | n + 1, i, a, f, hi, h, hI => by
    rw [F24_1]
    by_cases hlt : i < l.length
    · have ha : l[i]? = some l[i] := List.getElem?_eq_getElem hlt
      have hb : WF l[i] := hW _ (List.getElem_mem hlt)
      have : decide ((i : Int) < (l.length : Int)) = true := by simpa using hlt
      rw [this, br_true, at_nat, ha, bnd_some']
      obtain ⟨m, hm⟩ : ∃ m, k = m + 5 := ⟨k - 5, by omega⟩
      obtain ⟨u, u1, u2⟩ := F24_2_spec k m l (l.length : Int) (i : Int) l[i] o l[i] a
      rw [← hm] at u1
      rw [u1, bnd_some', step1 i (by omega)]
      obtain ⟨v, h1, h2⟩ := F24_1_spec k hk l hl hW o n (i + 1) _ _ (by omega) (by omega) (hI.or (Is.self hb) u2)
      refine ⟨v, h1, h2.congr fun x _ => ?_⟩
      rw [drop_cons ha, List.any_cons, Bool.or_assoc]
    · have : decide ((i : Int) < (l.length : Int)) = false := by simpa using hlt
      rw [this, br_false]
      exact ⟨a, rfl, hI.congr fun x _ => by rw [List.drop_eq_nil_of_le (by omega)]; simp⟩
theorem F24_spec (k : Nat) (l : List (Nat → Int)) (hl : l.length < 4611686018427387904) (hW : WFs l) (hk : l.length + 4 < k) : ∃ v, F24 k l = some v ∧ Is v (fun x => l.any fun c => BT c x) := by
  obtain ⟨v, h1, h2⟩ := F24_1_spec k (by omega) l hl hW (fun _ => (0 : Int)) k 0 _ _ (by omega) (by omega) Is.zero
  refine ⟨v, ?_, h2.congr fun x _ => by simp⟩
  unfold F24
  simp only [Int.cast_ofNat_Int] at h1
  rw [h1]; rfl
theorem F30_spec (k : Nat) (hk : 4 < k) : ∃ v, F30 k = some v ∧ Is v (fun _ => true) := by
  obtain ⟨v, h1, h2⟩ := F40_spec k Is.zero hk
  exact ⟨v, by unfold F30; rw [h1]; rfl, h2.congr fun _ _ => by simp⟩
def digitF (x : Nat) : Bool := decide (48 ≤ x) && decide (x ≤ 57)
theorem F32_spec (k : Nat) (hk : 256 < k) : ∃ v, F32 k = some v ∧ Is v digitF := by
  obtain ⟨v, h1, h2⟩ := F28_spec k 48 57 (by omega) (by omega) hk
  exact ⟨v, by unfold F32; simp only [Int.cast_ofNat_Int] at h1; rw [h1]; rfl, h2⟩
def cnt (f : Nat → Bool) (n : Nat) : Nat := ((List.range n).filter f).length
theorem cnt_add (f : Nat → Bool) (a b : Nat) : cnt f (a + b) = cnt f a + cnt (fun i => f (a + i)) b := by
  unfold cnt
  rw [List.range_add, List.filter_append, List.length_append, List.filter_map, List.length_map]
  rfl
theorem cnt_congr {f g : Nat → Bool} {n : Nat} (h : ∀ i, i < n → f i = g i) : cnt f n = cnt g n := by
  unfold cnt
  rw [List.filter_congr fun x hx => h x (List.mem_range.1 hx)]
theorem tb8 (q r : Nat) (h : r < 256) (j : Nat) : (256 * q + r).testBit j = if j < 8 then r.testBit j else q.testBit (j - 8) := by
  have := Nat.testBit_two_pow_mul_add q (b := r) (i := 8) (by omega) j
  simpa using this
theorem cnt8 (q r n : Nat) (h : r < 256) : cnt (256 * q + r).testBit (8 + n) = cnt r.testBit 8 + cnt q.testBit n := by
  rw [cnt_add]
  congr 1
  · exact cnt_congr fun i hi => by rw [tb8 q r h, if_pos hi]
  · exact cnt_congr fun i hi => by
      show (256 * q + r).testBit (8 + i) = _
      rw [tb8 q r h, if_neg (by omega)]; congr 1; omega
theorem AB (s m M q r : Nat) (hs : s ≤ 8) (hm : m < 2 ^ (8 - s)) (hr : r < 256) : ((256 * q + r) >>> s) &&& (256 * M + m) = 256 * ((q >>> s) &&& M) + ((r >>> s) &&& m) := by
  have hm8 : m < 256 := Nat.lt_of_lt_of_le hm (Nat.pow_le_pow_right (n := 2) (by omega) (show 8 - s ≤ 8 by omega))
  have hrm : (r >>> s) &&& m < 256 := Nat.lt_of_le_of_lt Nat.and_le_right hm8
  apply Nat.eq_of_testBit_eq
  intro j
  rw [Nat.testBit_and, Nat.testBit_shiftRight, tb8 q r hr, tb8 M m hm8, tb8 _ _ hrm]
  by_cases hj : j < 8
  · rw [if_pos hj, if_pos hj, Nat.testBit_and, Nat.testBit_shiftRight]
    by_cases hsj : s + j < 8
    · rw [if_pos hsj]
    · rw [if_neg hsj]
      have : m.testBit j = false := Nat.testBit_lt_two_pow (Nat.lt_of_lt_of_le hm (Nat.pow_le_pow_right (by omega) (by omega)))
      rw [this]; simp
  · rw [if_neg hj, if_neg (by omega), if_neg hj, Nat.testBit_and, Nat.testBit_shiftRight]
    congr 2; omega
def rep (m : Nat) : Nat → Nat
  | 0 => 0
  | n + 1 => 256 * rep m n + m
def hA (m s x M : Nat) : Nat := ((x >>> s) &&& M) + (x &&& M)
theorem hA_step (m s q r M : Nat) (hs : s ≤ 8) (hm : m < 2 ^ (8 - s)) (hr : r < 256) : hA m s (256 * q + r) (256 * M + m) = 256 * hA m s q M + hA m s r m := by
  have h0 := AB 0 m M q r (by omega) (Nat.lt_of_lt_of_le hm (Nat.pow_le_pow_right (by omega) (by omega))) hr
  simp only [Nat.shiftRight_zero] at h0
  unfold hA
  rw [AB s m M q r hs hm hr, h0]; omega
def byts : Nat → Nat → List Nat
  | 0, _ => []
  | n + 1, x => x % 256 :: byts n (x / 256)
def ofB : List Nat → Nat
  | [] => 0
  | r :: l => 256 * ofB l + r
theorem ofB_byts : ∀ (n x : Nat), x < 256 ^ n → ofB (byts n x) = x
  | 0, x, h => by simp at h; subst h; rfl
  | n + 1, x, h => by
    simp only [byts, ofB]
    rw [ofB_byts n (x / 256) (by rw [Nat.pow_succ] at h; omega)]; omega
theorem hA_ofB (m s : Nat) (hs : s ≤ 8) (hm : m < 2 ^ (8 - s)) : ∀ l : List Nat, (∀ r ∈ l, r < 256) → hA m s (ofB l) (rep m l.length) = ofB (l.map fun r => hA m s r m)
  | [], _ => by simp [hA, ofB, rep]
  | r :: l, h => by
    simp only [ofB, List.length_cons, rep, List.map_cons]
    rw [hA_step m s _ _ _ hs hm (h r (by simp)), hA_ofB m s hs hm l fun x hx => h x (by simp [hx])]
theorem and_ofB (m : Nat) (hm : m < 256) : ∀ l : List Nat, (∀ r ∈ l, r < 256) → ofB l &&& rep m l.length = ofB (l.map fun r => r &&& m)
  | [], _ => by simp [ofB, rep]
  | r :: l, h => by
    simp only [ofB, List.length_cons, rep, List.map_cons]
    have h0 := AB 0 m (rep m l.length) (ofB l) r (by omega) (by simpa using hm) (h r (by simp))
    simp only [Nat.shiftRight_zero] at h0
    rw [h0, and_ofB m hm l fun x hx => h x (by simp [hx])]
theorem byts_lt : ∀ (n x : Nat), ∀ r ∈ byts n x, r < 256
  | 0, x, r, h => by simp [byts] at h
  | n + 1, x, r, h => by
    simp only [byts, List.mem_cons] at h
    rcases h with rfl | h
    · omega
    · exact byts_lt n _ r h
theorem cnt_ofB : ∀ l : List Nat, (∀ r ∈ l, r < 256) → cnt (ofB l).testBit (8 * l.length) = (l.map fun r => cnt r.testBit 8).sum
  | [], _ => rfl
  | r :: l, h => by
    simp only [ofB, List.length_cons, List.map_cons, List.sum_cons]
    rw [show 8 * (l.length + 1) = 8 + 8 * l.length by omega, cnt8 _ _ _ (h r (by simp)), cnt_ofB l fun x hx => h x (by simp [hx])]
def c8 (r : Nat) : Nat := hA 51 2 (hA 85 1 r 85) 51
theorem c8_spec : ∀ r : Nat, r < 256 → hA 85 1 r 85 < 256 ∧ c8 r % 16 ≤ 4 ∧ c8 r / 16 ≤ 4 ∧ c8 r % 16 + c8 r / 16 = cnt r.testBit 8 := by decide +kernel

def pA (x : Int) : Int := IntKind.u64.wrap ((bitsI .and .u64 (shrI .u64 x 1) 6148914691236517205) + (bitsI .and .u64 x 6148914691236517205))
def pB (x : Int) : Int := IntKind.u64.wrap ((bitsI .and .u64 (shrI .u64 x 2) 3689348814741910323) + (bitsI .and .u64 x 3689348814741910323))
def pC (x : Int) : Int := bitsI .and .u64 (IntKind.u64.wrap ((shrI .u64 x 4) + x)) 1085102592571150095
def pD (s : Int) (x : Int) : Int := IntKind.u64.wrap (x + shrI .u64 x s)
theorem F51_eq (x : Int) : F51 x = some (bitsI .and .i64 (IntKind.i64.wrap (pD 32 (pD 16 (pD 8 (pC (pB (pA x))))))) 127) := rfl
theorem and7 (n : Nat) (hn : n < 9223372036854775808) : bitsI .and .i64 (n : Int) 127 = ((n % 128 : Nat) : Int) := by
  show IntKind.i64.wrap (((BitVec.ofInt 64 (n : Int) &&& BitVec.ofInt 64 ((127 : Nat) : Int)).toNat : Nat) : Int) = _
  simp only [BitVec.ofInt_natCast, BitVec.toNat_and, BitVec.toNat_ofNat]
  rw [Nat.mod_eq_of_lt (by omega), Nat.mod_eq_of_lt (by omega)]
  have := Nat.and_two_pow_sub_one_eq_mod n 7
  simp only [Nat.reducePow, Nat.reduceSub] at this
  rw [this]
  exact w64n _ (by omega)

theorem ofB_lt : ∀ l : List Nat, (∀ r ∈ l, r < 256) → ofB l < 256 ^ l.length
  | [], _ => by simp [ofB]
  | r :: l, h => by
    have := ofB_lt l fun x hx => h x (by simp [hx])
    have := h r (by simp)
    simp only [ofB, List.length_cons, Nat.pow_succ]; omega
theorem pA_nat (x : Nat) (hx : x < 18446744073709551616) (h : hA 85 1 x 6148914691236517205 < 18446744073709551616) : pA (x : Int) = ((hA 85 1 x 6148914691236517205 : Nat) : Int) := by
  unfold pA
  have h1 : x >>> 1 < 18446744073709551616 := Nat.lt_of_le_of_lt (Nat.shiftRight_le _ _) hx
  have e1 := shr64 x 1 (by omega)
  simp only [Int.cast_ofNat_Int] at e1
  rw [e1, show (6148914691236517205 : Int) = ((6148914691236517205 : Nat) : Int) from rfl, and64 _ _ h1 (by omega), and64 _ _ hx (by omega)]
  unfold hA at h ⊢
  rw [wu64 (by omega) (by omega)]; simp
theorem pB_nat (x : Nat) (hx : x < 18446744073709551616) (h : hA 51 2 x 3689348814741910323 < 18446744073709551616) : pB (x : Int) = ((hA 51 2 x 3689348814741910323 : Nat) : Int) := by
  unfold pB
  have h1 : x >>> 2 < 18446744073709551616 := Nat.lt_of_le_of_lt (Nat.shiftRight_le _ _) hx
  have e1 := shr64 x 2 (by omega)
  simp only [Int.cast_ofNat_Int] at e1
  rw [e1, show (3689348814741910323 : Int) = ((3689348814741910323 : Nat) : Int) from rfl, and64 _ _ h1 (by omega), and64 _ _ hx (by omega)]
  unfold hA at h ⊢
  rw [wu64 (by omega) (by omega)]; simp
theorem pC_nat (x : Nat) (hx : x < 18446744073709551616) (h : x / 16 + x < 18446744073709551616) : pC (x : Int) = (((x / 16 + x) &&& 1085102592571150095 : Nat) : Int) := by
  unfold pC
  have e1 := shr64 x 4 (by omega)
  simp only [Int.cast_ofNat_Int] at e1
  rw [e1, Nat.shiftRight_eq_div_pow, wu64 (by simp; omega) (by simp; omega), show (1085102592571150095 : Int) = ((1085102592571150095 : Nat) : Int) from rfl]
  have := and64 (x / 16 + x) 1085102592571150095 h (by omega)
  simpa using this
theorem pD_nat (s x : Nat) (hs : s ≤ 64) (h : x + x / 2 ^ s < 18446744073709551616) : pD (s : Int) (x : Int) = ((x + x / 2 ^ s : Nat) : Int) := by
  unfold pD
  rw [shr64 x s hs, Nat.shiftRight_eq_div_pow, ← Int.natCast_add, wu64 (Int.natCast_nonneg _) (Int.ofNat_lt.2 h)]
theorem popN (x : Nat) (hx : x < 18446744073709551616) : ∃ n0 n1 n2 n3 n4 n5 n6 n7 : Nat, n0 ≤ 8 ∧ n1 ≤ 8 ∧ n2 ≤ 8 ∧ n3 ≤ 8 ∧ n4 ≤ 8 ∧ n5 ≤ 8 ∧ n6 ≤ 8 ∧ n7 ≤ 8 ∧ pC (pB (pA (x : Int))) = ((ofB [n0, n1, n2, n3, n4, n5, n6, n7] : Nat) : Int) ∧ cnt x.testBit 64 = n0 + n1 + n2 + n3 + n4 + n5 + n6 + n7 := by
  have hB : ∀ r ∈ byts 8 x, r < 256 := byts_lt 8 x
  have hx8 : ofB (byts 8 x) = x := ofB_byts 8 x (by simpa using hx)
  have hlen : (byts 8 x).length = 8 := rfl
  have a1 := hA_ofB 85 1 (by omega) (by decide) (byts 8 x) hB
  rw [hx8, hlen, show rep 85 8 = 6148914691236517205 from rfl] at a1
  have aB : ∀ r ∈ (byts 8 x).map (fun r => hA 85 1 r 85), r < 256 := by
    intro r hr
    obtain ⟨y, hy, rfl⟩ := List.mem_map.1 hr
    exact (c8_spec y (hB y hy)).1
  have alt := ofB_lt _ aB
  rw [List.length_map, hlen, ← a1] at alt
  have b1 := hA_ofB 51 2 (by omega) (by decide) _ aB
  rw [List.length_map, hlen, ← a1, show rep 51 8 = 3689348814741910323 from rfl, List.map_map] at b1
  have bB : ∀ r ∈ (byts 8 x).map c8, r < 256 := by
    intro r hr
    obtain ⟨y, hy, rfl⟩ := List.mem_map.1 hr
    have := c8_spec y (hB y hy); omega
  have b1' : hA 51 2 (hA 85 1 x 6148914691236517205) 3689348814741910323 = ofB ((byts 8 x).map c8) := b1
  have blt := ofB_lt _ bB
  rw [List.length_map, hlen, ← b1'] at blt
  rw [pA_nat x hx (by simpa using alt), pB_nat _ (by simpa using alt) (by simpa using blt), b1']
  rw [b1'] at blt
  have hc := cnt_ofB (byts 8 x) hB
  rw [hx8, hlen] at hc
  have sp := fun y (hy : y ∈ byts 8 x) => c8_spec y (hB y hy)
  generalize byts 8 x = l at *
  match l, hlen with
  | [x0, x1, x2, x3, x4, x5, x6, x7], _ =>
    obtain ⟨_, p0, q0, r0⟩ := sp x0 (by simp)
    obtain ⟨_, p1, q1, r1⟩ := sp x1 (by simp)
    obtain ⟨_, p2, q2, r2⟩ := sp x2 (by simp)
    obtain ⟨_, p3, q3, r3⟩ := sp x3 (by simp)
    obtain ⟨_, p4, q4, r4⟩ := sp x4 (by simp)
    obtain ⟨_, p5, q5, r5⟩ := sp x5 (by simp)
    obtain ⟨_, p6, q6, r6⟩ := sp x6 (by simp)
    obtain ⟨_, p7, q7, r7⟩ := sp x7 (by simp)
    refine ⟨c8 x0 % 16 + c8 x0 / 16, c8 x1 % 16 + c8 x1 / 16, c8 x2 % 16 + c8 x2 / 16, c8 x3 % 16 + c8 x3 / 16, c8 x4 % 16 + c8 x4 / 16, c8 x5 % 16 + c8 x5 / 16, c8 x6 % 16 + c8 x6 / 16, c8 x7 % 16 + c8 x7 / 16, ?_, ?_, ?_, ?_, ?_, ?_, ?_, ?_, ?_, hc.trans ?_⟩
    rotate_left 9
    · simp only [List.map_cons, List.map_nil, List.sum_cons, List.sum_nil, ← r0, ← r1, ← r2, ← r3, ← r4, ← r5, ← r6, ← r7]
      omega
    · omega
    · omega
    · omega
    · omega
    · omega
    · omega
    · omega
    · omega
    · clear hc sp r0 r1 r2 r3 r4 r5 r6 r7 a1 b1 aB bB hx8 alt b1' hB
      have blt' : ofB [c8 x0, c8 x1, c8 x2, c8 x3, c8 x4, c8 x5, c8 x6, c8 x7] < 18446744073709551616 := by simpa using blt
      simp only [List.map_cons, List.map_nil]
      generalize c8 x0 = c0 at *; generalize c8 x1 = c1 at *; generalize c8 x2 = c2 at *; generalize c8 x3 = c3 at *
      generalize c8 x4 = c4 at *; generalize c8 x5 = c5 at *; generalize c8 x6 = c6 at *; generalize c8 x7 = c7 at *
      clear blt
      obtain ⟨l0, u0, rfl, hl0⟩ : ∃ l u, c0 = 16 * u + l ∧ l < 16 := ⟨c0 % 16, c0 / 16, by omega, by omega⟩
      obtain ⟨l1, u1, rfl, hl1⟩ : ∃ l u, c1 = 16 * u + l ∧ l < 16 := ⟨c1 % 16, c1 / 16, by omega, by omega⟩
      obtain ⟨l2, u2, rfl, hl2⟩ : ∃ l u, c2 = 16 * u + l ∧ l < 16 := ⟨c2 % 16, c2 / 16, by omega, by omega⟩
      obtain ⟨l3, u3, rfl, hl3⟩ : ∃ l u, c3 = 16 * u + l ∧ l < 16 := ⟨c3 % 16, c3 / 16, by omega, by omega⟩
      obtain ⟨l4, u4, rfl, hl4⟩ : ∃ l u, c4 = 16 * u + l ∧ l < 16 := ⟨c4 % 16, c4 / 16, by omega, by omega⟩
      obtain ⟨l5, u5, rfl, hl5⟩ : ∃ l u, c5 = 16 * u + l ∧ l < 16 := ⟨c5 % 16, c5 / 16, by omega, by omega⟩
      obtain ⟨l6, u6, rfl, hl6⟩ : ∃ l u, c6 = 16 * u + l ∧ l < 16 := ⟨c6 % 16, c6 / 16, by omega, by omega⟩
      obtain ⟨l7, u7, rfl, hl7⟩ : ∃ l u, c7 = 16 * u + l ∧ l < 16 := ⟨c7 % 16, c7 / 16, by omega, by omega⟩
      have e : ∀ u l : Nat, l < 16 → (16 * u + l) % 16 = l ∧ (16 * u + l) / 16 = u := fun u l h => by omega
      rw [(e u0 l0 hl0).1, (e u0 l0 hl0).2, (e u1 l1 hl1).1, (e u1 l1 hl1).2, (e u2 l2 hl2).1, (e u2 l2 hl2).2, (e u3 l3 hl3).1, (e u3 l3 hl3).2, (e u4 l4 hl4).1, (e u4 l4 hl4).2, (e u5 l5 hl5).1, (e u5 l5 hl5).2, (e u6 l6 hl6).1, (e u6 l6 hl6).2, (e u7 l7 hl7).1, (e u7 l7 hl7).2] at *
      have hz : ofB [16 * u0 + l0, 16 * u1 + l1, 16 * u2 + l2, 16 * u3 + l3, 16 * u4 + l4, 16 * u5 + l5, 16 * u6 + l6, 16 * u7 + l7] / 16 + ofB [16 * u0 + l0, 16 * u1 + l1, 16 * u2 + l2, 16 * u3 + l3, 16 * u4 + l4, 16 * u5 + l5, 16 * u6 + l6, 16 * u7 + l7]
          = ofB [16 * (u0 + l1) + (l0 + u0), 16 * (u1 + l2) + (l1 + u1), 16 * (u2 + l3) + (l2 + u2), 16 * (u3 + l4) + (l3 + u3), 16 * (u4 + l5) + (l4 + u4), 16 * (u5 + l6) + (l5 + u5), 16 * (u6 + l7) + (l6 + u6), 16 * u7 + (l7 + u7)] := by
        simp only [ofB]; omega
      have zB : ∀ r ∈ [16 * (u0 + l1) + (l0 + u0), 16 * (u1 + l2) + (l1 + u1), 16 * (u2 + l3) + (l2 + u2), 16 * (u3 + l4) + (l3 + u3), 16 * (u4 + l5) + (l4 + u4), 16 * (u5 + l6) + (l5 + u5), 16 * (u6 + l7) + (l6 + u6), 16 * u7 + (l7 + u7)], r < 256 := by
        intro r hr
        simp only [List.mem_cons, List.not_mem_nil, or_false] at hr
        rcases hr with rfl | rfl | rfl | rfl | rfl | rfl | rfl | rfl <;> omega
      have zlt := ofB_lt _ zB
      rw [← hz] at zlt
      rw [pC_nat _ blt' (by simpa using zlt), hz]
      have := and_ofB 15 (by omega) _ zB
      simp only [List.length_cons, List.length_nil] at this
      rw [show rep 15 (0 + 1 + 1 + 1 + 1 + 1 + 1 + 1 + 1) = 1085102592571150095 from rfl] at this
      rw [this]
      have m15 : ∀ a b : Nat, b < 16 → (16 * a + b) &&& 15 = b := fun a b h => by
        have := Nat.and_two_pow_sub_one_eq_mod (16 * a + b) 4
        simp only [Nat.reducePow, Nat.reduceSub] at this
        rw [this]; omega
      simp only [List.map_cons, List.map_nil]
      rw [m15 _ _ (by omega), m15 _ _ (by omega), m15 _ _ (by omega), m15 _ _ (by omega), m15 _ _ (by omega), m15 _ _ (by omega), m15 _ _ (by omega), m15 _ _ (by omega)]
theorem dstep (m Q r : Nat) (h : r < m) : (m * Q + r) + (m * Q + r) / m = m * Q + r + Q := by
  have : (m * Q + r) / m = Q := by
    rw [Nat.mul_add_div (by omega), Nat.div_eq_of_lt h]; rfl
  rw [this]
theorem dd1 (n0 n1 n2 n3 n4 n5 n6 n7 : Nat) (h : n0 < 256) : ∃ Y, ofB [n0, n1, n2, n3, n4, n5, n6, n7] + ofB [n0, n1, n2, n3, n4, n5, n6, n7] / 256 = Y ∧ Y = ofB [n0 + n1, n1 + n2, n2 + n3, n3 + n4, n4 + n5, n5 + n6, n6 + n7, n7] := by
  refine ⟨_, rfl, ?_⟩
  rw [show ofB [n0, n1, n2, n3, n4, n5, n6, n7] = 256 * ofB [n1, n2, n3, n4, n5, n6, n7] + n0 from rfl, dstep _ _ _ h]
  simp only [ofB]; omega
theorem dd2 (n0 n1 n2 n3 n4 n5 n6 n7 : Nat) (h : 256 * n1 + n0 < 65536) : ofB [n0, n1, n2, n3, n4, n5, n6, n7] + ofB [n0, n1, n2, n3, n4, n5, n6, n7] / 65536 = ofB [n0 + n2, n1 + n3, n2 + n4, n3 + n5, n4 + n6, n5 + n7, n6, n7] := by
  have : ofB [n0, n1, n2, n3, n4, n5, n6, n7] = 65536 * ofB [n2, n3, n4, n5, n6, n7] + (256 * n1 + n0) := by simp only [ofB]; omega
  rw [this, dstep _ _ _ h]
  simp only [ofB]; omega
theorem dd3 (n0 n1 n2 n3 n4 n5 n6 n7 : Nat) (h : 256 * (256 * (256 * n3 + n2) + n1) + n0 < 4294967296) : ofB [n0, n1, n2, n3, n4, n5, n6, n7] + ofB [n0, n1, n2, n3, n4, n5, n6, n7] / 4294967296 = ofB [n0 + n4, n1 + n5, n2 + n6, n3 + n7, n4, n5, n6, n7] := by
  have : ofB [n0, n1, n2, n3, n4, n5, n6, n7] = 4294967296 * ofB [n4, n5, n6, n7] + (256 * (256 * (256 * n3 + n2) + n1) + n0) := by simp only [ofB]; omega
  rw [this, dstep _ _ _ h]
  simp only [ofB]; omega
theorem ofB8 (n0 n1 n2 n3 n4 n5 n6 n7 : Nat) (h0 : n0 < 65) (h1 : n1 < 65) (h2 : n2 < 65) (h3 : n3 < 65) (h4 : n4 < 65) (h5 : n5 < 65) (h6 : n6 < 65) (h7 : n7 < 65) : ofB [n0, n1, n2, n3, n4, n5, n6, n7] < 9223372036854775808 := by
  have := ofB_lt [n0, n1, n2, n3, n4, n5, n6] (by intro r hr; simp at hr; omega)
  have e : ofB [n0, n1, n2, n3, n4, n5, n6, n7] = 72057594037927936 * n7 + ofB [n0, n1, n2, n3, n4, n5, n6] := by simp only [ofB]; omega
  rw [e]
  simp only [List.length_cons, List.length_nil, Nat.reduceAdd, Nat.reducePow] at this
  omega
theorem F51_spec (x : Nat) (hx : x < 18446744073709551616) : F51 (x : Int) = some ((cnt x.testBit 64 : Nat) : Int) := by
  obtain ⟨n0, n1, n2, n3, n4, n5, n6, n7, h0, h1, h2, h3, h4, h5, h6, h7, hC, hc⟩ := popN x hx
  rw [F51_eq, hC, hc]
  have e8 := fun y h => pD_nat 8 y (by omega) h
  have e16 := fun y h => pD_nat 16 y (by omega) h
  have e32 := fun y h => pD_nat 32 y (by omega) h
  simp only [Int.cast_ofNat_Int, Nat.reducePow] at e8 e16 e32
  obtain ⟨Y, t1, t2⟩ := dd1 n0 n1 n2 n3 n4 n5 n6 n7 (by omega)
  have b1 := ofB8 (n0 + n1) (n1 + n2) (n2 + n3) (n3 + n4) (n4 + n5) (n5 + n6) (n6 + n7) n7 (by omega) (by omega) (by omega) (by omega) (by omega) (by omega) (by omega) (by omega)
  have t3 := dd2 (n0 + n1) (n1 + n2) (n2 + n3) (n3 + n4) (n4 + n5) (n5 + n6) (n6 + n7) n7 (by omega)
  have b2 := ofB8 (n0 + n1 + (n2 + n3)) (n1 + n2 + (n3 + n4)) (n2 + n3 + (n4 + n5)) (n3 + n4 + (n5 + n6)) (n4 + n5 + (n6 + n7)) (n5 + n6 + n7) (n6 + n7) n7 (by omega) (by omega) (by omega) (by omega) (by omega) (by omega) (by omega) (by omega)
  have t4 := dd3 (n0 + n1 + (n2 + n3)) (n1 + n2 + (n3 + n4)) (n2 + n3 + (n4 + n5)) (n3 + n4 + (n5 + n6)) (n4 + n5 + (n6 + n7)) (n5 + n6 + n7) (n6 + n7) n7 (by omega)
  have b3 := ofB8 (n0 + n1 + (n2 + n3) + (n4 + n5 + (n6 + n7))) (n1 + n2 + (n3 + n4) + (n5 + n6 + n7)) (n2 + n3 + (n4 + n5) + (n6 + n7)) (n3 + n4 + (n5 + n6) + n7) (n4 + n5 + (n6 + n7)) (n5 + n6 + n7) (n6 + n7) n7 (by omega) (by omega) (by omega) (by omega) (by omega) (by omega) (by omega) (by omega)
  rw [e8 _ (by rw [t1, t2]; omega), t1, t2]
  rw [e16 _ (by rw [t3]; omega), t3]
  rw [e32 _ (by rw [t4]; omega), t4]
  rw [w64n _ b3, and7 _ b3]
  congr 2
  rw [show ofB [n0 + n1 + (n2 + n3) + (n4 + n5 + (n6 + n7)), n1 + n2 + (n3 + n4) + (n5 + n6 + n7), n2 + n3 + (n4 + n5) + (n6 + n7), n3 + n4 + (n5 + n6) + n7, n4 + n5 + (n6 + n7), n5 + n6 + n7, n6 + n7, n7] = 256 * ofB [n1 + n2 + (n3 + n4) + (n5 + n6 + n7), n2 + n3 + (n4 + n5) + (n6 + n7), n3 + n4 + (n5 + n6) + n7, n4 + n5 + (n6 + n7), n5 + n6 + n7, n6 + n7, n7] + (n0 + n1 + (n2 + n3) + (n4 + n5 + (n6 + n7))) from rfl]
  generalize ofB _ = K
  clear b1 b2 b3 t1 t2 t3 t4 hC e8 e16 e32
  omega
def mem' (f : Nat → Bool) (i : Nat) : List Nat := (List.range' i (256 - i)).filter f
theorem mem_done (f : Nat → Bool) {i : Nat} (h : 256 ≤ i) : mem' f i = [] := by
  unfold mem'; rw [show 256 - i = 0 by omega]; rfl
theorem mem_step (f : Nat → Bool) {i : Nat} (h : i < 256) : mem' f i = if f i then i :: mem' f (i + 1) else mem' f (i + 1) := by
  unfold mem'
  rw [show 256 - i = (256 - (i + 1)) + 1 by omega, List.range'_succ, List.filter_cons]
theorem mem_lt (f : Nat → Bool) (i : Nat) : Bn (mem' f i) := by
  intro x hx
  have := List.mem_range'_1.1 (List.mem_filter.1 hx).1
  omega
theorem mem_iff (f : Nat → Bool) (i x : Nat) : x ∈ mem' f i ↔ i ≤ x ∧ x < 256 ∧ f x = true := by
  unfold mem'
  rw [List.mem_filter, List.mem_range'_1]
  constructor
  · rintro ⟨⟨a, b⟩, c⟩; exact ⟨a, by omega, c⟩
  · rintro ⟨a, b, c⟩; exact ⟨⟨a, by omega⟩, c⟩
def bytesF (f : Nat → Bool) : List Nat := mem' f 0
theorem bytes_contains (f : Nat → Bool) (x : Nat) (hx : x < 256) : (bytesF f).contains x = f x := by
  rw [List.contains_eq_mem]
  have := mem_iff f 0 x
  cases h : f x
  · simp only [h, Bool.false_eq_true, and_false, iff_false] at this
    unfold bytesF; simp [this]
  · simp only [h, and_true, Nat.zero_le, true_and] at this
    unfold bytesF; simp [this.2 hx]

def runL {σ α : Type} (c : σ → α → Option (Bool × σ)) : σ → List α → Option σ
  | s, [] => some s
  | s, a :: l => bnd (c s a) fun v => br (!v.1) (some v.2) (runL c v.2 l)

theorem F56_1_spec {σ : Type} (c : σ → Int → Option (Bool × σ)) (k : Nat) {a : Nat → Int} {f : Nat → Bool} (ha : Is a f) : ∀ (n i : Nat) (s : σ), 256 - i < n → F56_1 c k a n s (i : Int) = runL c s (cs (mem' f i))
  | 0, i, s, h => by omega
  | n + 1, i, s, h => by
    rw [F56_1]
    by_cases hi : i < 256
    · rw [show decide ((i : Int) < 256) = true by simp; omega, br_true, wu8n hi, F14_spec ha hi, bnd_some', mem_step f hi, step1 i (by omega)]
      cases hf : f i
      · rw [br_false]
        simp only [Bool.false_eq_true, if_false]
        exact F56_1_spec c k ha n (i + 1) s (by omega)
      · rw [br_true]
        simp only [if_true, cs, List.map_cons, runL]
        congr 1
        funext v
        congr 1
        exact F56_1_spec c k ha n (i + 1) v.2 (by omega)
    · rw [show decide ((i : Int) < 256) = false by simp; omega, br_false, mem_done f (by omega)]; rfl
theorem F56_spec {σ : Type} (c : σ → Int → Option (Bool × σ)) (k : Nat) {a : Nat → Int} {f : Nat → Bool} (ha : Is a f) (s : σ) (hk : 256 < k) : F56 c k a s = runL c s (cs (bytesF f)) := by
  unfold F56
  have := F56_1_spec c k ha k 0 s (by omega)
  simp only [Int.cast_ofNat_Int] at this
  rw [this]
  unfold bytesF
  cases runL c s (cs (mem' f 0)) <;> rfl

def leastF (f : Nat → Bool) : Int × Bool := match bytesF f with
  | [] => (0, false)
  | b :: _ => ((b : Int), true)
theorem F12_spec (k : Nat) {a : Nat → Int} {f : Nat → Bool} (ha : Is a f) (hk : 256 < k) : F12 k a = some (leastF f) := by
  unfold F12
  have hz := Is.dec ha Is.zero
  cases h : (List.range 4).all fun j => (((a j) : Int) == (((fun _ => (0 : Int))) j))
  · rw [br_false]
    unfold F44
    rw [bnd_some', F56_spec _ k ha _ hk]
    unfold leastF
    cases hb : bytesF f with
    | nil =>
      exfalso
      have : ∀ i, i < 256 → f i = false := by
        intro i hi
        have := bytes_contains f i hi
        rw [hb] at this
        simpa using this.symm
      rw [hz.2 this] at h; cases h
    | cons b l =>
      simp only [cs, List.map_cons, runL, R12_1]
      rw [req_pos trivial]
      rfl
  · rw [br_true]
    have h0 : bytesF f = [] := by
      apply List.eq_nil_iff_forall_not_mem.2
      intro x hx
      have hx2 := (mem_iff f 0 x).1 hx
      have := hz.1 h x hx2.2.1
      rw [this] at hx2; simp at hx2
    unfold leastF; rw [h0]

theorem mem_range (f : Nat → Bool) : bytesF f = (List.range 256).filter f := by
  unfold bytesF mem'; rw [List.range_eq_range']
theorem F16_spec (k : Nat) {a : Nat → Int} {f : Nat → Bool} (ha : Is a f) (hk : 4 < k) : F16 k a = some (((bytesF f).length : Nat) : Int) := by
  obtain ⟨n, rfl⟩ : ∃ n, k = n + 5 := ⟨k - 5, by omega⟩
  obtain ⟨a0, b0⟩ := ha.1.nat (j := 0) (by omega)
  obtain ⟨a1, b1⟩ := ha.1.nat (j := 1) (by omega)
  obtain ⟨a2, b2⟩ := ha.1.nat (j := 2) (by omega)
  obtain ⟨a3, b3⟩ := ha.1.nat (j := 3) (by omega)
  have hc : ∀ j, j < 4 → cnt (fun i => f (64 * j + i)) 64 = cnt (nf a j).testBit 64 := by
    intro j hj
    apply cnt_congr
    intro i hi
    have := ha.2 (64 * j + i) (by omega)
    unfold BT at this
    rw [show (64 * j + i) / 64 = j by omega, show (64 * j + i) % 64 = i by omega] at this
    exact this.symm
  have hle : ∀ g : Nat → Bool, cnt g 64 ≤ 64 := fun g => by
    have := List.length_filter_le g (List.range 64)
    simpa [cnt] using this
  have hsum : (bytesF f).length = cnt (nf a 0).testBit 64 + cnt (nf a 1).testBit 64 + cnt (nf a 2).testBit 64 + cnt (nf a 3).testBit 64 := by
    rw [mem_range, ← hc 0 (by omega), ← hc 1 (by omega), ← hc 2 (by omega), ← hc 3 (by omega)]
    show cnt f (64 + 64 + 64 + 64) = _
    rw [cnt_add, cnt_add, cnt_add]
    congr 1
  unfold F16
  have q0 := F51_spec _ b0
  have q1 := F51_spec _ b1
  have q2 := F51_spec _ b2
  have q3 := F51_spec _ b3
  have w0 := hle (nf a 0).testBit
  have w1 := hle (nf a 1).testBit
  have w2 := hle (nf a 2).testBit
  have w3 := hle (nf a 3).testBit
  have i1 : IntKind.i64.wrap (0 + 1) = 1 := by decide
  have i2 : IntKind.i64.wrap (1 + 1) = 2 := by decide
  have i3 : IntKind.i64.wrap (2 + 1) = 3 := by decide
  have i4 : IntKind.i64.wrap (3 + 1) = 4 := by decide
  have st : ∀ m : Nat, ∀ s x : Int, ∀ y : Int, ∀ c : Nat, 0 ≤ x → x < 4 → a x.toNat = y → F51 y = some ((c : Nat) : Int) → F16_1 (n + 5) a a (m + 1) s x = F16_1 (n + 5) a a m (IntKind.i64.wrap (s + c)) (IntKind.i64.wrap (x + 1)) := by
    intro m s x y c h0 h1 hy hF
    rw [F16_1, show decide (x < 4) = true by simpa using h1, br_true, req_pos ⟨h0, by omega⟩, hy, hF, bnd_some']
  rw [st (n + 4) 0 0 _ _ (by omega) (by omega) a0 q0, i1, st (n + 3) _ 1 _ _ (by omega) (by omega) a1 q1, i2, st (n + 2) _ 2 _ _ (by omega) (by omega) a2 q2, i3, st (n + 1) _ 3 _ _ (by omega) (by omega) a3 q3, i4]
  rw [F16_1, show decide ((4 : Int) < 4) = false by decide, br_false, bnd_some', hsum]
  congr 1
  rw [w64 (n := 0 + _) (by omega) (by omega), w64 (n := 0 + _ + _) (by omega) (by omega), w64 (n := 0 + _ + _ + _) (by omega) (by omega), w64 (by omega) (by omega)]
  omega

def foldF (f : Nat → Bool) (x : Nat) : Bool := f x || ((decide (97 ≤ x) && decide (x ≤ 122) && f (x - 32)) || (decide (65 ≤ x) && decide (x ≤ 90) && f (x + 32)))
def twin (b : Nat) : List Nat := if 97 ≤ b ∧ b ≤ 122 then [b - 32] else if 65 ≤ b ∧ b ≤ 90 then [b + 32] else []
theorem R23_spec (k : Nat) (a o1 o2 : Nat → Int) {s : Nat → Int} {f : Nat → Bool} (hs : Is s f) {b : Nat} (hb : b < 256) (hk : 256 < k) : ∃ v, R23_1 k a o1 o2 s (b : Int) = some (true, v) ∧ Is v (fun x => f x || (twin b).contains x) := by
  have add : ∀ c : Nat, c < 256 → ∃ v, (bnd (F26 k [(c : Int)]) fun v2 => bnd (F24 k [s, v2]) fun v3 => some (true, v3)) = some (true, v) ∧ Is v (fun x => f x || x == c) := by
    intro c hc
    obtain ⟨d, d1, d2⟩ := F26_spec k [c] (by simp) (by intro x hx; simp at hx; omega) (by simp; omega)
    obtain ⟨v, v1, v2⟩ := F24_spec k [s, d] (by simp) (by intro x hx; simp at hx; rcases hx with rfl | rfl; exact hs.1; exact d2.1) (by simp; omega)
    refine ⟨v, ?_, v2.congr fun x hx => ?_⟩
    · simp only [cs, List.map_cons, List.map_nil] at d1
      rw [d1, bnd_some', v1]; rfl
    · simp only [List.any_cons, List.any_nil, d2.2 x hx, hs.2 x hx, List.contains_cons, List.contains_nil, Bool.or_false]
  unfold R23_1 twin
  by_cases h1 : 97 ≤ b
  · rw [show decide ((b : Int) ≥ 97) = true by simp; omega, br_true]
    by_cases h2 : b ≤ 122
    · rw [show decide ((b : Int) ≤ 122) = true by simp; omega, br_true, if_pos ⟨h1, h2⟩]
      obtain ⟨v, v1, v2⟩ := add (b - 32) (by omega)
      rw [show IntKind.u8.wrap ((b : Int) - 32) = ((b - 32 : Nat) : Int) by rw [wu8]; omega]
      exact ⟨v, v1, v2.congr fun x _ => by simp only [List.contains_cons, List.contains_nil, Bool.or_false]⟩
    · rw [show decide ((b : Int) ≤ 122) = false by simp; omega, br_false, show decide ((b : Int) ≥ 65) = true by simp; omega, br_true, show decide ((b : Int) ≤ 90) = false by simp; omega, br_false, if_neg (by omega), if_neg (by omega)]
      exact ⟨s, rfl, hs.congr fun x _ => by simp⟩
  · rw [show decide ((b : Int) ≥ 97) = false by simp; omega, br_false, if_neg (by omega)]
    by_cases h2 : 65 ≤ b
    · rw [show decide ((b : Int) ≥ 65) = true by simp; omega, br_true]
      by_cases h3 : b ≤ 90
      · rw [show decide ((b : Int) ≤ 90) = true by simp; omega, br_true, if_pos ⟨h2, h3⟩]
        obtain ⟨v, v1, v2⟩ := add (b + 32) (by omega)
        rw [show IntKind.u8.wrap ((b : Int) + 32) = ((b + 32 : Nat) : Int) by rw [wu8]; omega]
        exact ⟨v, v1, v2.congr fun x _ => by simp only [List.contains_cons, List.contains_nil, Bool.or_false]⟩
      · rw [show decide ((b : Int) ≤ 90) = false by simp; omega, br_false, if_neg (by omega)]
        exact ⟨s, rfl, hs.congr fun x _ => by simp⟩
    · rw [show decide ((b : Int) ≥ 65) = false by simp; omega, br_false, if_neg (by omega)]
      exact ⟨s, rfl, hs.congr fun x _ => by simp⟩
theorem R23_run (k : Nat) (a o1 o2 : Nat → Int) (hk : 256 < k) : ∀ (l : List Nat) (s : Nat → Int) (f : Nat → Bool), Bn l → Is s f → ∃ v, runL (R23_1 k a o1 o2) s (cs l) = some v ∧ Is v (fun x => f x || l.any fun b => (twin b).contains x)
  | [], s, f, _, h => ⟨s, rfl, h.congr fun x _ => by simp⟩
  | b :: l, s, f, hB, h => by
    obtain ⟨u, u1, u2⟩ := R23_spec k a o1 o2 h (hB b (by simp)) hk
    obtain ⟨v, v1, v2⟩ := R23_run k a o1 o2 hk l u _ (fun x hx => hB x (by simp [hx])) u2
    refine ⟨v, ?_, v2.congr fun x _ => ?_⟩
    · simp only [cs, List.map_cons, runL]
      rw [u1, bnd_some']
      simp only [Bool.not_true, br_false]
      exact v1
    · rw [List.any_cons, Bool.or_assoc]
theorem twins_fold (f : Nat → Bool) (x : Nat) (hx : x < 256) : (f x || (bytesF f).any fun b => (twin b).contains x) = foldF f x := by
  unfold foldF
  congr 1
  rw [Bool.eq_iff_iff]
  simp only [List.any_eq_true, Bool.or_eq_true, Bool.and_eq_true, decide_eq_true_eq]
  constructor
  · rintro ⟨b, hb, h⟩
    have hb2 := (mem_iff f 0 b).1 hb
    unfold twin at h
    split at h
    · simp at h; subst h
      right; exact ⟨by omega, by rw [show b - 32 + 32 = b by omega]; exact hb2.2.2⟩
    · split at h
      · simp at h; subst h
        left; exact ⟨by omega, by rw [show b + 32 - 32 = b by omega]; exact hb2.2.2⟩
      · simp at h
  · rintro (⟨h1, h2⟩ | ⟨h1, h2⟩)
    · refine ⟨x - 32, (mem_iff f 0 _).2 ⟨by omega, by omega, h2⟩, ?_⟩
      unfold twin
      rw [if_neg (by omega), if_pos (by omega)]; simp; omega
    · refine ⟨x + 32, (mem_iff f 0 _).2 ⟨by omega, by omega, h2⟩, ?_⟩
      unfold twin
      rw [if_pos (by omega)]; simp
theorem F23_spec (k : Nat) {a : Nat → Int} {f : Nat → Bool} (ha : Is a f) (hk : 256 < k) : ∃ v, F23 k a = some v ∧ Is v (foldF f) := by
  obtain ⟨v, v1, v2⟩ := R23_run k a a (fun _ => 0) hk (bytesF f) a f (mem_lt f 0) ha
  refine ⟨v, ?_, v2.congr fun x hx => twins_fold f x hx⟩
  unfold F23 F44
  rw [bnd_some', F56_spec _ k ha _ hk, v1]; rfl
def endRun (f : Nat → Bool) (i : Nat) : Nat := if h : i < 255 ∧ f (i + 1) = true then endRun f (i + 1) else i
termination_by 255 - i
theorem endRun_go {f : Nat → Bool} {i : Nat} (h : i < 255) (hf : f (i + 1) = true) : endRun f i = endRun f (i + 1) := by rw [endRun, dif_pos ⟨h, hf⟩]
theorem endRun_stop {f : Nat → Bool} {i : Nat} (h : ¬ (i < 255 ∧ f (i + 1) = true)) : endRun f i = i := by rw [endRun, dif_neg h]
theorem endRun_le (f : Nat → Bool) : ∀ (n i : Nat), 255 - i ≤ n → i ≤ endRun f i ∧ (i < 256 → endRun f i < 256) ∧ ¬ (endRun f i < 255 ∧ f (endRun f i + 1) = true)
  | n, i, hn => by
    by_cases h : i < 255 ∧ f (i + 1) = true
    · rw [endRun_go h.1 h.2]
      match n, hn with
      | 0, hn => omega
      | n + 1, hn =>
        obtain ⟨h1, h2, h3⟩ := endRun_le f n (i + 1) (by omega)
        exact ⟨by omega, fun _ => h2 (by omega), h3⟩
    · rw [endRun_stop h]
      exact ⟨by omega, fun h => h, h⟩
theorem endRun_ge (f : Nat → Bool) (i : Nat) : i ≤ endRun f i := (endRun_le f (255 - i) i (by omega)).1
theorem endRun_lt (f : Nat → Bool) {i : Nat} (h : i < 256) : endRun f i < 256 := (endRun_le f (255 - i) i (by omega)).2.1 h
theorem endRun_end (f : Nat → Bool) (i : Nat) : ¬ (endRun f i < 255 ∧ f (endRun f i + 1) = true) := (endRun_le f (255 - i) i (by omega)).2.2

def runsF (f : Nat → Bool) (i : Nat) : List (Nat × Nat) :=
  if h : i < 256 then (if f i then (i, endRun f i) :: runsF f (endRun f i + 1) else runsF f (i + 1)) else []
termination_by 256 - i
decreasing_by
  · have := endRun_ge f i; omega
  · omega
theorem runs_done (f : Nat → Bool) {i : Nat} (h : 256 ≤ i) : runsF f i = [] := by rw [runsF, dif_neg (by omega)]
theorem runs_yes {f : Nat → Bool} {i : Nat} (h : i < 256) (hf : f i = true) : runsF f i = (i, endRun f i) :: runsF f (endRun f i + 1) := by rw [runsF, dif_pos h, if_pos hf]
theorem runs_no {f : Nat → Bool} {i : Nat} (h : i < 256) (hf : f i = false) : runsF f i = runsF f (i + 1) := by rw [runsF, dif_pos h, if_neg (by simp [hf])]

def Sep : List (Nat × Nat) → Prop
  | [] => True
  | p :: rs => p.1 ≤ p.2 ∧ p.2 < 256 ∧ (∀ q, rs.head? = some q → p.2 + 1 < q.1) ∧ Sep rs
theorem runs_head (f : Nat → Bool) : ∀ (n i : Nat), 256 - i ≤ n → ∀ q, (runsF f i).head? = some q → i ≤ q.1 ∧ q.1 < 256 ∧ f q.1 = true
  | n, i, hn, q, hq => by
    by_cases hi : i < 256
    · match n, hn with
      | 0, hn => omega
      | n + 1, hn =>
        cases hf : f i
        · rw [runs_no hi hf] at hq
          have := runs_head f n (i + 1) (by omega) q hq
          exact ⟨by omega, this.2⟩
        · rw [runs_yes hi hf] at hq
          cases hq
          exact ⟨by simp, hi, hf⟩
    · rw [runs_done f (by omega)] at hq; cases hq
theorem runs_sep (f : Nat → Bool) : ∀ (n i : Nat), 256 - i ≤ n → Sep (runsF f i)
  | n, i, hn => by
    by_cases hi : i < 256
    · match n, hn with
      | 0, hn => omega
      | n + 1, hn =>
        cases hf : f i
        · rw [runs_no hi hf]; exact runs_sep f n (i + 1) (by omega)
        · have hge := endRun_ge f i
          rw [runs_yes hi hf]
          refine ⟨hge, endRun_lt f hi, fun q hq => ?_, runs_sep f n _ (by omega)⟩
          obtain ⟨h1, h2, h3⟩ := runs_head f 256 _ (by omega) q hq
          have h4 := endRun_end f i
          simp only []
          rcases Nat.eq_or_lt_of_le h1 with h | h
          · exfalso; rw [← h] at h3 h2; exact h4 ⟨by omega, h3⟩
          · exact h
    · rw [runs_done f (by omega)]; trivial
theorem runs_len (f : Nat → Bool) : ∀ (n i : Nat), 256 - i ≤ n → (runsF f i).length ≤ 256 - i
  | n, i, hn => by
    by_cases hi : i < 256
    · match n, hn with
      | 0, hn => omega
      | n + 1, hn =>
        cases hf : f i
        · rw [runs_no hi hf]; have := runs_len f n (i + 1) (by omega); omega
        · have hge := endRun_ge f i
          rw [runs_yes hi hf, List.length_cons]
          have := runs_len f n (endRun f i + 1) (by omega)
          omega
    · rw [runs_done f (by omega)]; simp
def pI (p : Nat × Nat) : Int × Int := ((p.1 : Int), (p.2 : Int))

theorem F57_2_spec {σ : Type} (c : σ → Int × Int → Option (Bool × σ)) (k : Nat) (s : σ) {a : Nat → Int} {f : Nat → Bool} (ha : Is a f) (x4 : Int) : ∀ (n i : Nat), 255 - i < n → i < 256 → F57_2 c k s a x4 n (i : Int) = some ((endRun f i : Nat) : Int)
  | 0, i, h, _ => by omega
  | n + 1, i, h, hi => by
    rw [F57_2]
    by_cases h1 : i < 255
    · rw [show decide ((i : Int) < 255) = true by simp; omega, br_true, step1 i (by omega), wu8n (n := i + 1) (by omega), F14_spec ha (b := i + 1) (by omega), bnd_some']
      cases hf : f (i + 1)
      · rw [br_false, endRun_stop (by simp [hf])]
      · rw [br_true, F57_2_spec c k s ha x4 n (i + 1) (by omega) (by omega), endRun_go h1 hf]
    · rw [show decide ((i : Int) < 255) = false by simp; omega, br_false, endRun_stop (by omega)]
theorem F57_1_spec {σ : Type} (c : σ → Int × Int → Option (Bool × σ)) (k : Nat) (hk : 256 < k) {a : Nat → Int} {f : Nat → Bool} (ha : Is a f) : ∀ (n i : Nat) (s : σ), 256 - i < n → F57_1 c k a n s (i : Int) = runL c s ((runsF f i).map pI)
  | 0, i, s, h => by omega
  | n + 1, i, s, h => by
    rw [F57_1]
    by_cases hi : i < 256
    · rw [show decide ((i : Int) < 256) = true by simp; omega, br_true, wu8n hi, F14_spec ha hi, bnd_some']
      cases hf : f i
      · simp only [Bool.not_false, br_true]
        rw [step1 i (by omega), runs_no hi hf]
        exact F57_1_spec c k hk ha n (i + 1) s (by omega)
      · simp only [Bool.not_true, br_false]
        have he := endRun_lt f hi
        have hge := endRun_ge f i
        rw [F57_2_spec c k s ha (i : Int) k i (by omega) hi, bnd_some', wu8n he, runs_yes hi hf, List.map_cons, runL]
        show bnd (c s (pI (i, endRun f i))) _ = _
        congr 1
        funext v
        congr 1
        rw [step1 _ (by omega)]
        exact F57_1_spec c k hk ha n (endRun f i + 1) v.2 (by omega)
    · rw [show decide ((i : Int) < 256) = false by simp; omega, br_false, runs_done f (by omega)]; rfl
theorem F57_spec {σ : Type} (c : σ → Int × Int → Option (Bool × σ)) (k : Nat) {a : Nat → Int} {f : Nat → Bool} (ha : Is a f) (s : σ) (hk : 256 < k) : F57 c k a s = runL c s ((runsF f 0).map pI) := by
  unfold F57
  have := F57_1_spec c k hk ha k 0 s (by omega)
  simp only [Int.cast_ofNat_Int] at this
  rw [this]
  cases runL c s ((runsF f 0).map pI) <;> rfl
def refStep (acc : List (Nat × Nat)) (b : Nat) : List (Nat × Nat) := match acc.getLast? with
  | some q => if (b + 255) % 256 = q.2 then acc.dropLast ++ [(q.1, b)] else acc ++ [(b, b)]
  | none => [(b, b)]
theorem ref_app (acc : List (Nat × Nat)) (q : Nat × Nat) (b : Nat) : refStep (acc ++ [q]) b = if (b + 255) % 256 = q.2 then acc ++ [(q.1, b)] else (acc ++ [q]) ++ [(b, b)] := by
  unfold refStep
  rw [List.getLast?_append]
  simp
theorem ref_runs (f : Nat → Bool) : ∀ (n i : Nat), 256 - i ≤ n →
    (∀ acc : List (Nat × Nat), (∀ q, acc.getLast? = some q → ∀ b, i ≤ b → b < 256 → f b = true → (b + 255) % 256 ≠ q.2) → (mem' f i).foldl refStep acc = acc ++ runsF f i) ∧
    (∀ (acc : List (Nat × Nat)) (lo : Nat), i < 256 → f i = true → (mem' f (i + 1)).foldl refStep (acc ++ [(lo, i)]) = acc ++ (lo, endRun f i) :: runsF f (endRun f i + 1))
  | n, i, hn => by
    by_cases hi : i < 256
    · match n, hn with
      | 0, hn => omega
      | n + 1, hn =>
        obtain ⟨A, B⟩ := ref_runs f n (i + 1) (by omega)
        have hB : ∀ (acc : List (Nat × Nat)) (lo : Nat), i < 256 → f i = true → (mem' f (i + 1)).foldl refStep (acc ++ [(lo, i)]) = acc ++ (lo, endRun f i) :: runsF f (endRun f i + 1) := by
          intro acc lo _ hf
          by_cases h : i < 255 ∧ f (i + 1) = true
          · rw [endRun_go h.1 h.2, mem_step f (i := i + 1) (by omega), if_pos h.2, List.foldl_cons, ref_app, if_pos (by simp only []; omega)]
            exact B acc lo (by omega) h.2
          · rw [endRun_stop h, A (acc ++ [(lo, i)]) ?_]
            · simp
            · intro q hq b hb hb2 hfb
              simp at hq
              subst hq
              simp only []
              intro he
              have : b = i + 1 := by omega
              subst this
              exact h ⟨by omega, hfb⟩
        refine ⟨fun acc hacc => ?_, hB⟩
        cases hf : f i
        · rw [mem_step f hi, hf, runs_no hi hf]
          exact A acc fun q hq b hb => hacc q hq b (by omega)
        · rw [mem_step f hi, if_pos hf, List.foldl_cons, runs_yes hi hf]
          have : refStep acc i = acc ++ [(i, i)] := by
            unfold refStep
            split
            · rename_i q hq
              rw [if_neg (hacc q hq i (Nat.le_refl _) hi hf)]
            · rename_i hq
              rw [List.getLast?_eq_none_iff] at hq
              subst hq; rfl
          rw [this]
          exact hB acc i hi hf
    · refine ⟨fun acc _ => ?_, fun acc lo h => absurd h hi⟩
      rw [mem_done f (by omega), runs_done f (by omega)]; simp
theorem ref_bytes (f : Nat → Bool) : (bytesF f).foldl refStep [] = runsF f 0 := by
  have := (ref_runs f 256 0 (by omega)).1 [] (by intro q hq; cases hq)
  simpa [bytesF] using this
def B (l : List Nat) : ByteArray := strOfNums (cs l)
theorem B_data (l : List Nat) : (B l).data.toList = l.map UInt8.ofNat := by
  unfold B strOfNums cs
  simp [List.map_map, Function.comp_def]
theorem B_ext {x y : ByteArray} (h : x.data.toList = y.data.toList) : x = y := by
  cases x; cases y; simp at h; rw [h]
theorem B_append (l m : List Nat) : B l ++ B m = B (l ++ m) := by
  apply B_ext
  rw [B_data, List.map_append, ← B_data, ← B_data]
  simp [ByteArray.data_append]
theorem B_size (l : List Nat) : (B l).size = l.length := by unfold B; rw [strOfNums_size, cs_len]
theorem B_inj : ∀ {l m : List Nat}, Bn l → Bn m → l.map UInt8.ofNat = m.map UInt8.ofNat → l = m
  | [], [], _, _, _ => rfl
  | [], _ :: _, _, _, h => by cases h
  | _ :: _, [], _, _, h => by cases h
  | a :: l, b :: m, hl, hm, h => by
    simp only [List.map_cons, List.cons.injEq] at h
    rw [B_inj (fun x hx => hl x (by simp [hx])) (fun x hx => hm x (by simp [hx])) h.2]
    have := congrArg UInt8.toNat h.1
    have h1 := hl a (by simp); have h2 := hm b (by simp)
    simp only [UInt8.toNat_ofNat'] at this
    rw [show a = b by omega]
theorem strEq_B {l m : List Nat} (hl : Bn l) (hm : Bn m) : strEq (B l) (B m) = decide (l = m) := by
  unfold strEq
  rw [ByteArray.toList_eq, ByteArray.toList_eq, B_data, B_data]
  by_cases h : l = m
  · subst h; simp
  · have : ¬ l.map UInt8.ofNat = m.map UInt8.ofNat := fun e => h (B_inj hl hm e)
    simp [h, this]
def hexd (n : Nat) : Nat := if n < 10 then 48 + n else 87 + n
def hexF (b : Nat) : List Nat := [92, 120, hexd (b / 16), hexd (b % 16)]
theorem F52_spec : ∀ b : Nat, b < 256 → F52 (b : Int) = some (B (hexF b)) := by decide +kernel
def litS : List Nat := [46, 91, 93, 40, 41, 123, 125, 124, 42, 43, 63, 94, 36, 92]
def inS : List Nat := [93, 91, 92, 94, 45]
def litF (b : Nat) : List Nat := if b < 33 ∨ b > 126 then hexF b else if litS.contains b then [92, b] else [b]
def inF (b : Nat) : List Nat := if b < 33 ∨ b > 126 then hexF b else if inS.contains b then hexF b else [b]
theorem F17_spec (k b : Nat) (hb : b < 256) (hk : 256 < k) : F17 k (b : Int) = some (B (litF b)) := by
  unfold F17 litF
  rw [F52_spec b hb]
  simp only [bnd_some']
  by_cases h1 : b < 33
  · rw [show decide ((b : Int) < 33) = true by simp; omega, br_true, if_pos (.inl h1)]
  · rw [show decide ((b : Int) < 33) = false by simp; omega, br_false]
    by_cases h2 : b > 126
    · rw [show decide ((b : Int) > 126) = true by simp; omega, br_true, if_pos (.inr h2)]
    · rw [show decide ((b : Int) > 126) = false by simp; omega, br_false, if_neg (by omega)]
      obtain ⟨v, v1, v2⟩ := F26_spec k litS (by simp [litS]) (by unfold litS; intro x hx; simp at hx; omega) (by simp [litS]; omega)
      rw [show ([46, 91, 93, 40, 41, 123, 125, 124, 42, 43, 63, 94, 36, 92] : List Int) = cs litS from rfl, v1, bnd_some', F14_spec v2 hb, bnd_some']
      cases hc : litS.contains b
      · rw [br_false]; simp [B, cs]
      · rw [br_true]; simp [B, cs]
theorem F19_spec (k b : Nat) (hb : b < 256) (hk : 256 < k) : F19 k (b : Int) = some (B (inF b)) := by
  unfold F19 inF
  rw [F52_spec b hb]
  simp only [bnd_some']
  by_cases h1 : b < 33
  · rw [show decide ((b : Int) < 33) = true by simp; omega, br_true, if_pos (.inl h1)]
  · rw [show decide ((b : Int) < 33) = false by simp; omega, br_false]
    by_cases h2 : b > 126
    · rw [show decide ((b : Int) > 126) = true by simp; omega, br_true, if_pos (.inr h2)]
    · rw [show decide ((b : Int) > 126) = false by simp; omega, br_false, if_neg (by omega)]
      obtain ⟨v, v1, v2⟩ := F26_spec k inS (by simp [inS]) (by unfold inS; intro x hx; simp at hx; omega) (by simp [inS]; omega)
      rw [show ([93, 91, 92, 94, 45] : List Int) = cs inS from rfl, v1, bnd_some', F14_spec v2 hb, bnd_some']
      cases hc : inS.contains b
      · rw [br_false]; simp [B, cs]
      · rw [br_true]; simp
theorem inF_len (b : Nat) : (inF b).length ≤ 4 := by
  unfold inF hexF; split
  · simp
  · split <;> simp
def rt (p : Nat × Nat) : List Nat := inF p.1 ++ ((if p.2 - p.1 > 1 then [45] else []) ++ (if p.2 ≠ p.1 then inF p.2 else []))
theorem rt_len (p : Nat × Nat) : (rt p).length ≤ 9 := by
  have h1 := inF_len p.1; have h2 := inF_len p.2
  unfold rt
  simp only [List.length_append]
  split <;> split <;> simp <;> omega
theorem R21_run (k : Nat) (a o : Nat → Int) (hk : 256 < k) : ∀ (l : List (Nat × Nat)) (s : List Nat), Sep l → s.length + 9 * l.length ≤ 100000 → runL (R21_1 k a o) (B s) (l.map pI) = some (B (s ++ l.flatMap rt))
  | [], s, _, _ => by simp [runL]
  | p :: l, s, hS, h => by
    obtain ⟨h1, h2, _, h4⟩ := hS
    have l1 := inF_len p.1
    have l2 := inF_len p.2
    simp only [List.length_cons] at h
    have hrt := rt_len p
    have ih := R21_run k a o hk l (s ++ rt p) h4 (by simp; omega)
    simp only [List.map_cons, runL]
    have one : R21_1 k a o (B s) (pI p) = some (true, B (s ++ rt p)) := by
      unfold R21_1 pI
      simp only []
      rw [F19_spec k p.1 (by omega) hk, bnd_some', F19_spec k p.2 h2 hk]
      simp only [bnd_some', show (ByteArray.mk #[45]) = B [45] from rfl, B_append, B_size]
      rw [req_pos (by omega), w64n p.2 (by omega), w64n p.1 (by omega), w64 (by omega) (by omega)]
      unfold rt
      by_cases q1 : p.2 - p.1 > 1
      · rw [show decide (((p.2 : Int) - (p.1 : Int)) > 1) = true by simp; omega, br_true, req_pos (by simp; omega), show ((p.2 : Int) != (p.1 : Int)) = true by simp; omega, br_true, req_pos (by simp; omega), if_pos q1, if_pos (by omega)]
        simp
      · rw [show decide (((p.2 : Int) - (p.1 : Int)) > 1) = false by simp; omega, br_false, if_neg q1]
        by_cases q2 : p.2 = p.1
        · rw [show ((p.2 : Int) != (p.1 : Int)) = false by simp [q2], br_false, if_neg (by simp [q2])]; simp
        · rw [show ((p.2 : Int) != (p.1 : Int)) = true by simp; omega, br_true, req_pos (by simp; omega), if_pos q2]; simp
    rw [one, bnd_some']
    simp only [Bool.not_true, br_false]
    rw [ih, List.flatMap_cons]; simp
def textF (f : Nat → Bool) : List Nat := match bytesF f with
  | [b] => litF b
  | _ => 91 :: ((runsF f 0).flatMap rt ++ [93])
theorem F21_spec (k : Nat) {a : Nat → Int} {f : Nat → Bool} (ha : Is a f) (hk : 256 < k) : F21 k a = some (B (textF f)) := by
  unfold F21
  rw [F16_spec k ha (by omega), bnd_some']
  have multi : (bnd (F46 a) fun v2 => bnd (F57 (R21_1 k v2 a) k v2 (((ByteArray.mk #[91])))) fun v3 => req (ByteArray.size v3 + ByteArray.size (ByteArray.mk #[93]) ≤ 9223372036854775807) <| some ((v3 ++ (ByteArray.mk #[93])))) = some (B (91 :: ((runsF f 0).flatMap rt ++ [93]))) := by
    unfold F46
    have hl := runs_len f 256 0 (by omega)
    rw [bnd_some', F57_spec _ k ha _ hk, show (ByteArray.mk #[91]) = B [91] from rfl, R21_run k a a hk _ _ (runs_sep f 256 0 (by omega)) (by simp; omega), bnd_some', show (ByteArray.mk #[93]) = B [93] from rfl, B_append, B_size, B_size]
    have hfl : ∀ l : List (Nat × Nat), (l.flatMap rt).length ≤ 9 * l.length := by
      intro l
      induction l with
      | nil => simp
      | cons p l ih => have := rt_len p; rw [List.flatMap_cons, List.length_append, List.length_cons]; omega
    have := hfl (runsF f 0)
    rw [req_pos (by simp only [List.length_append, List.length_cons, List.length_nil]; omega)]; simp
  unfold textF
  cases hb : bytesF f with
  | nil =>
    rw [show ((((([] : List Nat).length : Nat) : Int)) == 1) = false by decide, br_false]
    exact multi
  | cons b l =>
    cases l with
    | nil =>
      have hB : b < 256 := by have := mem_lt f 0; exact this b (by unfold bytesF at hb; rw [hb]; simp)
      simp only [List.length_cons, List.length_nil]
      rw [show ((((0 + 1 : Nat) : Int)) == 1) = true by decide, br_true, F12_spec k ha hk, bnd_some']
      unfold leastF
      rw [hb]
      simp only []
      rw [F17_spec k b hB hk]; rfl
    | cons c l =>
      simp only [List.length_cons]
      rw [show ((((l.length + 1 + 1 : Nat) : Int)) == 1) = false by simp; omega, br_false]
      exact multi
theorem WF.of {a : Nat → Int} (h : ∀ j0, j0 < 4 → (IntKind.u64.min ≤ (a j0) ∧ (a j0) ≤ IntKind.u64.max)) : WF a := by
  intro j hj
  have := h j hj
  simp [IntKind.min, IntKind.max, IntKind.signed, IntKind.bits] at this
  omega
theorem text_ref (f : Nat → Bool) : textF f = match bytesF f with
  | [b] => litF b
  | _ => 91 :: (((bytesF f).foldl refStep []).flatMap rt ++ [93]) := by
  rw [ref_bytes]; unfold textF
  generalize bytesF f = L
  rcases L with _ | ⟨b, _ | ⟨c, l⟩⟩ <;> rfl
instance (l : List Nat) : Decidable (Bn l) := by unfold Bn; infer_instance
theorem F13_spec (k : Nat) (hk : 256 < k) : F13 k = some true := by
  obtain ⟨a, a1, a2⟩ := F32_spec k hk
  obtain ⟨b, b1, b2⟩ := F26_spec k [97] (by simp) (by intro x hx; simp at hx; omega) (by simp; omega)
  obtain ⟨c, c1, c2⟩ := F23_spec k b2 hk
  obtain ⟨d, d1, d2⟩ := F26_spec k [46] (by simp) (by intro x hx; simp at hx; omega) (by simp; omega)
  have t1 : textF digitF = [91, 48, 45, 57, 93] := by rw [text_ref]; decide +kernel
  have t2 : textF (foldF fun x => [97].contains x) = [91, 65, 97, 93] := by rw [text_ref]; decide +kernel
  have t3 : textF (fun x => [46].contains x) = [92, 46] := by rw [text_ref]; decide +kernel
  simp only [cs, List.map_cons, List.map_nil, Int.cast_ofNat_Int] at b1 d1
  unfold F13
  rw [a1, bnd_some', F21_spec k a2 hk, bnd_some', t1, show (ByteArray.mk #[91, 48, 45, 57, 93]) = B [91, 48, 45, 57, 93] from rfl, strEq_B (by decide) (by decide)]
  simp only [decide_true, br_true]
  rw [b1, bnd_some', c1, bnd_some', F21_spec k c2 hk, bnd_some', t2, show (ByteArray.mk #[91, 65, 97, 93]) = B [91, 65, 97, 93] from rfl, strEq_B (by decide) (by decide)]
  simp only [decide_true, br_true]
  rw [d1, bnd_some', F21_spec k d2 hk, bnd_some', t3, show (ByteArray.mk #[92, 46]) = B [92, 46] from rfl, strEq_B (by decide) (by decide)]
  simp only [decide_true]
theorem two_WF {a b : Nat → Int} (ha : WF a) (hb : WF b) : WFs [a, b] := by
  intro x hx; simp at hx; rcases hx with rfl | rfl <;> assumption
theorem or_spec (k : Nat) {a b : Nat → Int} {f g : Nat → Bool} (ha : Is a f) (hb : Is b g) (hk : 256 < k) : ∃ v, F24 k [a, b] = some v ∧ Is v (fun x => f x || g x) := by
  obtain ⟨v, v1, v2⟩ := F24_spec k [a, b] (by simp) (two_WF ha.1 hb.1) (by simp; omega)
  exact ⟨v, v1, v2.congr fun x hx => by simp only [List.any_cons, List.any_nil, ha.2 x hx, hb.2 x hx, Bool.or_false]⟩
theorem classSetsA (x0 : (Nat → Int)) (x1 : (Nat → Int)) (x2 : (Nat → Int)) (w0 : ∀ j0, j0 < 4 → (IntKind.u64.min ≤ (x0 j0) ∧ (x0 j0) ≤ IntKind.u64.max)) (w1 : ∀ j0, j0 < 4 → (IntKind.u64.min ≤ (x1 j0) ∧ (x1 j0) ≤ IntKind.u64.max)) (w2 : ∀ j0, j0 < 4 → (IntKind.u64.min ≤ (x2 j0) ∧ (x2 j0) ≤ IntKind.u64.max)) : ∃ k, F8 k x0 x1 x2 = some true := by
  refine ⟨300, ?_⟩
  have h0 := Is.self (WF.of w0)
  have h1 := Is.self (WF.of w1)
  have h2 := Is.self (WF.of w2)
  generalize BT x0 = f at h0
  generalize BT x1 = g at h1
  generalize BT x2 = h at h2
  obtain ⟨v2, q2, i2⟩ := or_spec 300 h0 h1 (by omega)
  obtain ⟨v3, q3, i3⟩ := or_spec 300 h1 h0 (by omega)
  obtain ⟨v5, q5, i5⟩ := F25_spec 300 h0 h1 (by omega)
  obtain ⟨v6, q6, i6⟩ := F25_spec 300 h1 h0 (by omega)
  obtain ⟨v8, q8, i8⟩ := or_spec 300 h1 h2 (by omega)
  obtain ⟨v9, q9, i9⟩ := or_spec 300 h0 i8 (by omega)
  obtain ⟨v10, q10, i10⟩ := or_spec 300 i2 h2 (by omega)
  obtain ⟨v12, q12, i12⟩ := F25_spec 300 h1 h2 (by omega)
  obtain ⟨v13, q13, i13⟩ := F25_spec 300 h0 i12 (by omega)
  obtain ⟨v14, q14, i14⟩ := F25_spec 300 i5 h2 (by omega)
  obtain ⟨v16, q16, i16⟩ := F25_spec 300 h0 i8 (by omega)
  obtain ⟨v17, q17, i17⟩ := F25_spec 300 h0 h2 (by omega)
  obtain ⟨v18, q18, i18⟩ := or_spec 300 i5 i17 (by omega)
  obtain ⟨v20, q20, i20⟩ := F40_spec 300 h0 (by omega)
  obtain ⟨v21, q21, i21⟩ := F40_spec 300 i20 (by omega)
  obtain ⟨v23, q23, i23⟩ := F40_spec 300 i2 (by omega)
  obtain ⟨v24, q24, i24⟩ := F40_spec 300 h1 (by omega)
  obtain ⟨v25, q25, i25⟩ := F25_spec 300 i20 i24 (by omega)
  obtain ⟨v27, q27, i27⟩ := F25_spec 300 h0 i20 (by omega)
  obtain ⟨v29, q29, i29⟩ := or_spec 300 h0 i20 (by omega)
  obtain ⟨v30, q30, i30⟩ := F30_spec 300 (by omega)
  have s1 := Is.same (i3.congr (g := fun x => f x || g x) fun x _ => Bool.or_comm _ _) i2
  unfold F8
  rw [F13_spec _ (by omega), bnd_some', br_true, q2, bnd_some', q3, bnd_some', Is.same i2 (i3.congr fun x _ => Bool.or_comm _ _), br_true, q5, bnd_some', q6, bnd_some', Is.same i5 (i6.congr fun x _ => Bool.and_comm _ _), br_true,
    q8, bnd_some', q9, bnd_some', q10, bnd_some', Is.same i9 (i10.congr fun x _ => Bool.or_assoc _ _ _), br_true, q12, bnd_some', q13, bnd_some', q14, bnd_some', Is.same i13 (i14.congr fun x _ => Bool.and_assoc _ _ _), br_true,
    q16, bnd_some', q17, bnd_some', q18, bnd_some', Is.same i16 (i18.congr fun x _ => (Bool.and_or_distrib_left _ _ _).symm), br_true, q20, bnd_some', q21, bnd_some', Is.same (i21.congr (g := f) fun x _ => Bool.not_not _) h0, br_true,
    q23, bnd_some', q24, bnd_some', q25, bnd_some', Is.same i23 (i25.congr fun x _ => (Bool.not_or _ _).symm), br_true, q27, bnd_some', Is.same (i27.congr (g := fun _ => false) fun x _ => Bool.and_not_self _) Is.zero, br_true,
    q29, bnd_some', q30, bnd_some', Is.same (i29.congr (g := fun _ => true) fun x _ => Bool.or_not_self _) i30]

end Go.Ev
