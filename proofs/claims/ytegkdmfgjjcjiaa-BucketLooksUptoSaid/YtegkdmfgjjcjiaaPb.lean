/- Plain laws of the printed functions of this seat. Conditions: none beyond each theorem's own. -/
import Derived.Test.YtegkdmfgjjcjiaaPa2
import Derived.Laws.Closers25
set_option linter.unusedVariables false
set_option linter.unusedSimpArgs false
namespace Go.Ev
theorem w64 {n : Int} (h0 : -9223372036854775808 ≤ n) (h1 : n < 9223372036854775808) : IntKind.i64.wrap n = n := by
  simp [IntKind.wrap, IntKind.bits, IntKind.signed]; split <;> omega
theorem wu64 {n : Int} (h0 : 0 ≤ n) (h1 : n < 18446744073709551616) : IntKind.u64.wrap n = n := by
  simp [IntKind.wrap, IntKind.bits, IntKind.signed]; omega
theorem wu8 (n : Int) : IntKind.u8.wrap n = n % 256 := by simp [IntKind.wrap, IntKind.bits, IntKind.signed]
theorem wu8n {n : Nat} (h : n < 256) : IntKind.u8.wrap (n : Int) = (n : Int) := by rw [wu8]; omega
theorem at_nat {α : Type} (xs : List α) (i : Nat) : at? xs (i : Int) = xs[i]? := by simp [at?]
theorem br_true {α : Type} (a b : Option α) : br true a b = a := rfl
theorem br_false {α : Type} (a b : Option α) : br false a b = b := rfl
theorem bnd_some' {α β : Type} (a : α) (f : α → Option β) : bnd (some a) f = f a := rfl
theorem req_pos {α : Type} {p : Prop} [Decidable p] (h : p) (a : Option α) : req p a = a := by simp [req, h]
theorem drop_cons {α : Type} {l : List α} {i : Nat} {x : α} (h : l[i]? = some x) : l.drop i = x :: l.drop (i + 1) := by
  have hi := lt_of_get h
  rw [List.getElem?_eq_getElem hi] at h
  cases h
  exact List.drop_eq_getElem_cons hi
theorem step1 (i : Nat) (h : i < 4611686018427387904) : IntKind.i64.wrap ((i : Int) + 1) = ((i + 1 : Nat) : Int) := by rw [w64 (by omega) (by omega)]; simp

theorem byteNums : ∀ n : Nat, n < 256 → shrI .u8 (n : Int) 6 = ((n / 64 : Nat) : Int) ∧ bitsI .and .u8 (n : Int) 63 = ((n % 64 : Nat) : Int) ∧ IntKind.u8.wrap (Int.tdiv (n : Int) 64) = ((n / 64 : Nat) : Int) ∧ Int.tmod (n : Int) 64 = ((n % 64 : Nat) : Int) ∧
    shrI .i64 (n : Int) 6 = ((n / 64 : Nat) : Int) ∧ bitsI .and .i64 (n : Int) 63 = ((n % 64 : Nat) : Int) := by decide +kernel
theorem shl1 : ∀ s : Nat, s < 64 → shlI .u64 1 (s : Int) = ((2 ^ s : Nat) : Int) := by decide +kernel

theorem or64 (m n : Nat) (hm : m < 18446744073709551616) (hn : n < 18446744073709551616) : bitsI .or .u64 (m : Int) (n : Int) = ((m ||| n : Nat) : Int) := by
  have hlt : m ||| n < 2 ^ 64 := Nat.or_lt_two_pow (by simpa using hm) (by simpa using hn)
  show IntKind.u64.wrap (((BitVec.ofInt 64 (m : Int) ||| BitVec.ofInt 64 (n : Int)).toNat : Nat) : Int) = _
  simp only [BitVec.ofInt_natCast, BitVec.toNat_or, BitVec.toNat_ofNat]
  rw [Nat.mod_eq_of_lt (by simpa using hm), Nat.mod_eq_of_lt (by simpa using hn)]
  exact wu64 (by omega) (by simp at hlt; omega)
theorem and64 (m n : Nat) (hm : m < 18446744073709551616) (hn : n < 18446744073709551616) : bitsI .and .u64 (m : Int) (n : Int) = ((m &&& n : Nat) : Int) := by
  have hlt : m &&& n < 2 ^ 64 := Nat.and_lt_two_pow _ (by simpa using hn)
  show IntKind.u64.wrap (((BitVec.ofInt 64 (m : Int) &&& BitVec.ofInt 64 (n : Int)).toNat : Nat) : Int) = _
  simp only [BitVec.ofInt_natCast, BitVec.toNat_and, BitVec.toNat_ofNat]
  rw [Nat.mod_eq_of_lt (by simpa using hm), Nat.mod_eq_of_lt (by simpa using hn)]
  exact wu64 (by omega) (by simp at hlt; omega)
theorem shr64 (m s : Nat) (hs : s ≤ 64) : shrI .u64 (m : Int) (s : Int) = ((m >>> s : Nat) : Int) := by
  simp only [shrI, IntKind.bits, Int.toNat_natCast, Nat.min_eq_left hs, Nat.shiftRight_eq_div_pow]
  rw [Int.fdiv_eq_ediv_of_nonneg _ (by have : (0:Int) < 2 ^ s := Int.pow_pos (by omega); omega)]
  simp

def BT (a : Nat → Int) (i : Nat) : Bool := (a (i / 64)).toNat.testBit (i % 64)
def WF (a : Nat → Int) : Prop := ∀ j, j < 4 → 0 ≤ a j ∧ a j < 18446744073709551616
def Is (a : Nat → Int) (f : Nat → Bool) : Prop := WF a ∧ ∀ i, i < 256 → BT a i = f i
def nf (a : Nat → Int) (j : Nat) : Nat := (a j).toNat
theorem WF.nat {a : Nat → Int} (h : WF a) {j : Nat} (hj : j < 4) : a j = (nf a j : Int) ∧ nf a j < 18446744073709551616 := by
  have := h j hj; unfold nf; omega
theorem Is.self {a : Nat → Int} (h : WF a) : Is a (BT a) := ⟨h, fun _ _ => rfl⟩
theorem Is.congr {a : Nat → Int} {f g : Nat → Bool} (h : Is a f) (e : ∀ i, i < 256 → f i = g i) : Is a g := ⟨h.1, fun i hi => (h.2 i hi).trans (e i hi)⟩
theorem Is.zero : Is (fun _ => (0 : Int)) (fun _ => false) := ⟨fun j _ => by simp, fun i _ => by simp [BT]⟩
theorem Is.add {a : Nat → Int} {f : Nat → Bool} (h : Is a f) {b : Nat} (hb : b < 256) : Is (upd a (b / 64) (bitsI .or .u64 (a (b / 64)) (shlI .u64 1 ((b % 64 : Nat) : Int)))) (fun i => f i || i == b) := by
  obtain ⟨n1, n2⟩ := h.1.nat (j := b / 64) (by omega)
  have p : 2 ^ (b % 64) < 18446744073709551616 := by
    have : 2 ^ (b % 64) < 2 ^ 64 := Nat.pow_lt_pow_right (by omega) (by omega)
    simpa using this
  have e : bitsI .or .u64 (a (b / 64)) (shlI .u64 1 ((b % 64 : Nat) : Int)) = ((nf a (b / 64) ||| 2 ^ (b % 64) : Nat) : Int) := by
    rw [shl1 _ (by omega), n1, or64 _ _ n2 p]
  rw [e]
  have q : nf a (b / 64) ||| 2 ^ (b % 64) < 2 ^ 64 := Nat.or_lt_two_pow (by simpa using n2) (by simpa using p)
  refine ⟨fun j hj => ?_, fun i hi => ?_⟩
  · simp only [upd]
    split
    · simp at q; omega
    · exact h.1 j hj
  · have h1 := h.2 i hi
    unfold BT at h1 ⊢
    simp only [upd]
    by_cases hij : i / 64 = b / 64
    · rw [if_pos hij, Int.toNat_natCast, Nat.testBit_or, Nat.testBit_two_pow]
      rw [hij] at h1
      unfold nf
      rw [h1]
      congr 1
      by_cases hb' : i = b
      · subst hb'; simp
      · have : ¬ b % 64 = i % 64 := by omega
        simp [this, hb']
    · rw [if_neg hij, h1]
      have : i ≠ b := by rintro rfl; exact hij rfl
      simp [this]

theorem testBit_and1 (m s : Nat) : (m >>> s &&& 1 = 1) ↔ m.testBit s = true := by
  simp [Nat.testBit, Nat.and_comm]

theorem F30_spec {a : Nat → Int} {f : Nat → Bool} (h : Is a f) {b : Nat} (hb : b < 256) : F30 a (b : Int) = some (f b) := by
  obtain ⟨n1, n2⟩ := h.1.nat (j := b / 64) (by omega)
  obtain ⟨e1, e2, _⟩ := byteNums b hb
  unfold F30
  rw [e1, e2, req_pos (by unfold arrOk; omega), req_pos (by omega), Int.toNat_natCast, n1, shr64 _ _ (by omega)]
  have hlt : nf a (b / 64) >>> (b % 64) < 18446744073709551616 := Nat.lt_of_le_of_lt (Nat.shiftRight_le _ _) n2
  have e3 : bitsI .and .u64 ((nf a (b / 64) >>> (b % 64) : Nat) : Int) 1 = ((nf a (b / 64) >>> (b % 64) &&& 1 : Nat) : Int) := and64 _ 1 hlt (by omega)
  rw [e3, ← h.2 b hb]
  congr 1
  unfold BT
  have := testBit_and1 (nf a (b / 64)) (b % 64)
  unfold nf at this ⊢
  cases hc : (a (b / 64)).toNat.testBit (b % 64)
  · rw [hc] at this
    simp only [Bool.false_eq_true, iff_false] at this
    simp only [beq_eq_false_iff_ne, ne_eq]
    omega
  · rw [hc] at this
    have := this.2 rfl
    rw [this]; rfl
def cs (l : List Nat) : List Int := l.map fun (n : Nat) => (n : Int)
theorem cs_get (l : List Nat) (i : Nat) : (cs l)[i]? = (l[i]?).map fun (n : Nat) => (n : Int) := by simp [cs]
theorem cs_len (l : List Nat) : (cs l).length = l.length := by simp [cs]
def Bn (l : List Nat) : Prop := ∀ x ∈ l, x < 256
theorem cs_of {l : List Int} (h : ∀ y ∈ l, (IntKind.u8.min ≤ y ∧ y ≤ IntKind.u8.max)) : ∃ l' : List Nat, l = cs l' ∧ Bn l' := by
  refine ⟨l.map Int.toNat, ?_, ?_⟩
  · unfold cs
    rw [List.map_map]
    conv => lhs; rw [← List.map_id l]
    apply List.map_congr_left
    intro x hx
    have := h x hx
    simp [IntKind.min, IntKind.max, IntKind.signed, IntKind.bits] at this
    simp; omega
  · intro x hx
    obtain ⟨y, hy, rfl⟩ := List.mem_map.1 hx
    have := h y hy
    simp [IntKind.min, IntKind.max, IntKind.signed, IntKind.bits] at this
    omega

theorem F36_1_spec (k : Nat) (l : List Nat) (hl : l.length < 4611686018427387904) (hB : Bn l) (o : Nat → Int) : ∀ (n i : Nat) (a : Nat → Int) (f : Nat → Bool), i ≤ l.length → l.length - i < n → Is a f →
    ∃ v, F36_1 k (cs l) (l.length : Int) o n (i : Int) a = some v ∧ Is v (fun x => f x || (l.drop i).contains x)
  | 0, i, a, f, _, h, _ => by omega
  | n + 1, i, a, f, hi, h, hI => by
    rw [F36_1]
    by_cases hlt : i < l.length
    · have ha : l[i]? = some l[i] := List.getElem?_eq_getElem hlt
      have hb : l[i] < 256 := hB _ (List.getElem_mem hlt)
      have : decide ((i : Int) < (l.length : Int)) = true := by simpa using hlt
      rw [this, br_true, at_nat, cs_get, ha]
      simp only [Option.map_some, bnd_some']
      obtain ⟨e1, e2, _⟩ := byteNums l[i] hb
      rw [e1, e2, req_pos (by unfold arrOk; omega), req_pos (by omega), Int.toNat_natCast, step1 i (by omega)]
      obtain ⟨v, h1, h2⟩ := F36_1_spec k l hl hB o n (i + 1) _ _ (by omega) (by omega) (hI.add hb)
      refine ⟨v, h1, h2.congr fun x _ => ?_⟩
      rw [drop_cons ha, List.contains_cons, Bool.or_assoc]
    · have : decide ((i : Int) < (l.length : Int)) = false := by simpa using hlt
      rw [this, br_false]
      exact ⟨a, rfl, hI.congr fun x _ => by rw [List.drop_eq_nil_of_le (by omega)]; simp⟩
theorem F36_spec (k : Nat) (l : List Nat) (hl : l.length < 4611686018427387904) (hB : Bn l) (hk : l.length < k) : ∃ v, F36 k (cs l) = some v ∧ Is v (fun x => l.contains x) := by
  obtain ⟨v, h1, h2⟩ := F36_1_spec k l hl hB (fun _ => (0 : Int)) k 0 _ _ (by omega) (by omega) Is.zero
  refine ⟨v, ?_, h2.congr fun x _ => by simp⟩
  unfold F36
  rw [cs_len]
  simp only [Int.cast_ofNat_Int] at h1
  rw [h1]; rfl
theorem four {p : Nat → Prop} (h0 : p 0) (h1 : p 1) (h2 : p 2) (h3 : p 3) : ∀ j, j < 4 → p j := by
  intro j hj
  have : j = 0 ∨ j = 1 ∨ j = 2 ∨ j = 3 := by omega
  rcases this with rfl | rfl | rfl | rfl <;> assumption
theorem F40_2_spec (k n : Nat) (x8 : List (Nat → Int)) (x9 x10 : Int) (x o1 o2 o : Nat → Int) : ∃ v, F40_2 k x8 x9 x10 x o1 o2 (n + 5) 0 o = some v ∧ ∀ j, j < 4 → v j = bitsI .or .u64 (o j) (x j) :=
  ⟨_, rfl, four rfl rfl rfl rfl⟩
theorem Is.two {a b v : Nat → Int} {f g : Nat → Bool} (ha : Is a f) (hb : Is b g) (op : Nat → Nat → Nat) (ob : Bool → Bool → Bool)
    (hop : ∀ m n i, (op m n).testBit i = ob (m.testBit i) (n.testBit i)) (h64 : ∀ m n, m < 18446744073709551616 → n < 18446744073709551616 → op m n < 18446744073709551616)
    (h : ∀ j, j < 4 → v j = ((op (nf a j) (nf b j) : Nat) : Int)) : Is v (fun i => ob (f i) (g i)) := by
  refine ⟨fun j hj => ?_, fun i hi => ?_⟩
  · rw [h j hj]
    have := h64 _ _ (ha.1.nat hj).2 (hb.1.nat hj).2
    omega
  · unfold BT
    rw [h _ (by omega), Int.toNat_natCast, hop]
    show _ = ob (f i) (g i)
    rw [← ha.2 i hi, ← hb.2 i hi]
    rfl
theorem Is.or {a b v : Nat → Int} {f g : Nat → Bool} (ha : Is a f) (hb : Is b g) (h : ∀ j, j < 4 → v j = bitsI .or .u64 (a j) (b j)) : Is v (fun i => f i || g i) := by
  refine Is.two ha hb (· ||| ·) (· || ·) (fun m n i => Nat.testBit_or m n i) (fun m n hm hn => by have := Nat.or_lt_two_pow (n := 64) (x := m) (y := n) (by simpa using hm) (by simpa using hn); simpa using this) fun j hj => ?_
  obtain ⟨a1, a2⟩ := ha.1.nat hj
  obtain ⟨b1, b2⟩ := hb.1.nat hj
  rw [h j hj, a1, b1, or64 _ _ a2 b2]
theorem Is.and {a b v : Nat → Int} {f g : Nat → Bool} (ha : Is a f) (hb : Is b g) (h : ∀ j, j < 4 → v j = bitsI .and .u64 (a j) (b j)) : Is v (fun i => f i && g i) := by
  refine Is.two ha hb (· &&& ·) (· && ·) (fun m n i => Nat.testBit_and m n i) (fun m n hm hn => by have := Nat.and_lt_two_pow (n := 64) m (y := n) (by simpa using hn); simpa using this) fun j hj => ?_
  obtain ⟨a1, a2⟩ := ha.1.nat hj
  obtain ⟨b1, b2⟩ := hb.1.nat hj
  rw [h j hj, a1, b1, and64 _ _ a2 b2]
def WFs (l : List (Nat → Int)) : Prop := ∀ a ∈ l, WF a
theorem F40_1_spec (k : Nat) (hk : 4 < k) (l : List (Nat → Int)) (hl : l.length < 4611686018427387904) (hW : WFs l) (o : Nat → Int) : ∀ (n i : Nat) (a : Nat → Int) (f : Nat → Bool), i ≤ l.length → l.length - i < n → Is a f →
    ∃ v, F40_1 k l (l.length : Int) o n (i : Int) a = some v ∧ Is v (fun x => f x || (l.drop i).any fun c => BT c x)
  | 0, i, a, f, _, h, _ => by omega
  | n + 1, i, a, f, hi, h, hI => by
    rw [F40_1]
    by_cases hlt : i < l.length
    · have ha : l[i]? = some l[i] := List.getElem?_eq_getElem hlt
      have hb : WF l[i] := hW _ (List.getElem_mem hlt)
      have : decide ((i : Int) < (l.length : Int)) = true := by simpa using hlt
      rw [this, br_true, at_nat, ha, bnd_some']
      obtain ⟨m, hm⟩ : ∃ m, k = m + 5 := ⟨k - 5, by omega⟩
      obtain ⟨u, u1, u2⟩ := F40_2_spec k m l (l.length : Int) (i : Int) l[i] o l[i] a
      rw [← hm] at u1
      rw [u1, bnd_some', step1 i (by omega)]
      obtain ⟨v, h1, h2⟩ := F40_1_spec k hk l hl hW o n (i + 1) _ _ (by omega) (by omega) (hI.or (Is.self hb) u2)
      refine ⟨v, h1, h2.congr fun x _ => ?_⟩
      rw [drop_cons ha, List.any_cons, Bool.or_assoc]
    · have : decide ((i : Int) < (l.length : Int)) = false := by simpa using hlt
      rw [this, br_false]
      exact ⟨a, rfl, hI.congr fun x _ => by rw [List.drop_eq_nil_of_le (by omega)]; simp⟩
theorem F40_spec (k : Nat) (l : List (Nat → Int)) (hl : l.length < 4611686018427387904) (hW : WFs l) (hk : l.length + 4 < k) : ∃ v, F40 k l = some v ∧ Is v (fun x => l.any fun c => BT c x) := by
  obtain ⟨v, h1, h2⟩ := F40_1_spec k (by omega) l hl hW (fun _ => (0 : Int)) k 0 _ _ (by omega) (by omega) Is.zero
  refine ⟨v, ?_, h2.congr fun x _ => by simp⟩
  unfold F40
  simp only [Int.cast_ofNat_Int] at h1
  rw [h1]; rfl
def mem' (f : Nat → Bool) (i : Nat) : List Nat := (List.range' i (256 - i)).filter f
theorem mem_done (f : Nat → Bool) {i : Nat} (h : 256 ≤ i) : mem' f i = [] := by
  unfold mem'; rw [show 256 - i = 0 by omega]; rfl
theorem mem_step (f : Nat → Bool) {i : Nat} (h : i < 256) : mem' f i = if f i then i :: mem' f (i + 1) else mem' f (i + 1) := by
  unfold mem'
  rw [show 256 - i = (256 - (i + 1)) + 1 by omega, List.range'_succ, List.filter_cons]
theorem mem_lt (f : Nat → Bool) (i : Nat) : Bn (mem' f i) := by
  intro x hx
  have := List.mem_range'_1.1 (List.mem_filter.1 hx).1
  omega
theorem mem_iff (f : Nat → Bool) (i x : Nat) : x ∈ mem' f i ↔ i ≤ x ∧ x < 256 ∧ f x = true := by
  unfold mem'
  rw [List.mem_filter, List.mem_range'_1]
  constructor
  · rintro ⟨⟨a, b⟩, c⟩; exact ⟨a, by omega, c⟩
  · rintro ⟨a, b, c⟩; exact ⟨⟨a, by omega⟩, c⟩
def bytesF (f : Nat → Bool) : List Nat := mem' f 0
def runL {σ α : Type} (c : σ → α → Option (Bool × σ)) : σ → List α → Option σ
  | s, [] => some s
  | s, a :: l => bnd (c s a) fun v => br (!v.1) (some v.2) (runL c v.2 l)

theorem F41_1_spec {σ : Type} (c : σ → Int → Option (Bool × σ)) (k : Nat) {a : Nat → Int} {f : Nat → Bool} (ha : Is a f) : ∀ (n i : Nat) (s : σ), 256 - i < n → F41_1 c k a n s (i : Int) = runL c s (cs (mem' f i))
  | 0, i, s, h => by omega
  | n + 1, i, s, h => by
    rw [F41_1]
    by_cases hi : i < 256
    · rw [show decide ((i : Int) < 256) = true by simp; omega, br_true, wu8n hi, F30_spec ha hi, bnd_some', mem_step f hi, step1 i (by omega)]
      cases hf : f i
      · rw [br_false]
        simp only [Bool.false_eq_true, if_false]
        exact F41_1_spec c k ha n (i + 1) s (by omega)
      · rw [br_true]
        simp only [if_true, cs, List.map_cons, runL]
        congr 1
        funext v
        congr 1
        exact F41_1_spec c k ha n (i + 1) v.2 (by omega)
    · rw [show decide ((i : Int) < 256) = false by simp; omega, br_false, mem_done f (by omega)]; rfl
theorem F41_spec {σ : Type} (c : σ → Int → Option (Bool × σ)) (k : Nat) {a : Nat → Int} {f : Nat → Bool} (ha : Is a f) (s : σ) (hk : 256 < k) : F41 c k a s = runL c s (cs (bytesF f)) := by
  unfold F41
  have := F41_1_spec c k ha k 0 s (by omega)
  simp only [Int.cast_ofNat_Int] at this
  rw [this]
  unfold bytesF
  cases runL c s (cs (mem' f 0)) <;> rfl

def foldF (f : Nat → Bool) (x : Nat) : Bool := f x || ((decide (97 ≤ x) && decide (x ≤ 122) && f (x - 32)) || (decide (65 ≤ x) && decide (x ≤ 90) && f (x + 32)))
def twin (b : Nat) : List Nat := if 97 ≤ b ∧ b ≤ 122 then [b - 32] else if 65 ≤ b ∧ b ≤ 90 then [b + 32] else []
theorem R37_spec (k : Nat) (a o1 o2 : Nat → Int) {s : Nat → Int} {f : Nat → Bool} (hs : Is s f) {b : Nat} (hb : b < 256) (hk : 256 < k) : ∃ v, R37_1 k a o1 o2 s (b : Int) = some (true, v) ∧ Is v (fun x => f x || (twin b).contains x) := by
  have add : ∀ c : Nat, c < 256 → ∃ v, (bnd (F36 k [(c : Int)]) fun v2 => bnd (F40 k [s, v2]) fun v3 => some (true, v3)) = some (true, v) ∧ Is v (fun x => f x || x == c) := by
    intro c hc
    obtain ⟨d, d1, d2⟩ := F36_spec k [c] (by simp) (by intro x hx; simp at hx; omega) (by simp; omega)
    obtain ⟨v, v1, v2⟩ := F40_spec k [s, d] (by simp) (by intro x hx; simp at hx; rcases hx with rfl | rfl; exact hs.1; exact d2.1) (by simp; omega)
    refine ⟨v, ?_, v2.congr fun x hx => ?_⟩
    · simp only [cs, List.map_cons, List.map_nil] at d1
      rw [d1, bnd_some', v1]; rfl
    · simp only [List.any_cons, List.any_nil, d2.2 x hx, hs.2 x hx, List.contains_cons, List.contains_nil, Bool.or_false]
  unfold R37_1 twin
  by_cases h1 : 97 ≤ b
  · rw [show decide ((b : Int) ≥ 97) = true by simp; omega, br_true]
    by_cases h2 : b ≤ 122
    · rw [show decide ((b : Int) ≤ 122) = true by simp; omega, br_true, if_pos ⟨h1, h2⟩]
      obtain ⟨v, v1, v2⟩ := add (b - 32) (by omega)
      rw [show IntKind.u8.wrap ((b : Int) - 32) = ((b - 32 : Nat) : Int) by rw [wu8]; omega]
      exact ⟨v, v1, v2.congr fun x _ => by simp only [List.contains_cons, List.contains_nil, Bool.or_false]⟩
    · rw [show decide ((b : Int) ≤ 122) = false by simp; omega, br_false, show decide ((b : Int) ≥ 65) = true by simp; omega, br_true, show decide ((b : Int) ≤ 90) = false by simp; omega, br_false, if_neg (by omega), if_neg (by omega)]
      exact ⟨s, rfl, hs.congr fun x _ => by simp⟩
  · rw [show decide ((b : Int) ≥ 97) = false by simp; omega, br_false, if_neg (by omega)]
    by_cases h2 : 65 ≤ b
    · rw [show decide ((b : Int) ≥ 65) = true by simp; omega, br_true]
      by_cases h3 : b ≤ 90
      · rw [show decide ((b : Int) ≤ 90) = true by simp; omega, br_true, if_pos ⟨h2, h3⟩]
        obtain ⟨v, v1, v2⟩ := add (b + 32) (by omega)
        rw [show IntKind.u8.wrap ((b : Int) + 32) = ((b + 32 : Nat) : Int) by rw [wu8]; omega]
        exact ⟨v, v1, v2.congr fun x _ => by simp only [List.contains_cons, List.contains_nil, Bool.or_false]⟩
      · rw [show decide ((b : Int) ≤ 90) = false by simp; omega, br_false, if_neg (by omega)]
        exact ⟨s, rfl, hs.congr fun x _ => by simp⟩
    · rw [show decide ((b : Int) ≥ 65) = false by simp; omega, br_false, if_neg (by omega)]
      exact ⟨s, rfl, hs.congr fun x _ => by simp⟩
theorem R37_run (k : Nat) (a o1 o2 : Nat → Int) (hk : 256 < k) : ∀ (l : List Nat) (s : Nat → Int) (f : Nat → Bool), Bn l → Is s f → ∃ v, runL (R37_1 k a o1 o2) s (cs l) = some v ∧ Is v (fun x => f x || l.any fun b => (twin b).contains x)
  | [], s, f, _, h => ⟨s, rfl, h.congr fun x _ => by simp⟩
  | b :: l, s, f, hB, h => by
    obtain ⟨u, u1, u2⟩ := R37_spec k a o1 o2 h (hB b (by simp)) hk
    obtain ⟨v, v1, v2⟩ := R37_run k a o1 o2 hk l u _ (fun x hx => hB x (by simp [hx])) u2
    refine ⟨v, ?_, v2.congr fun x _ => ?_⟩
    · simp only [cs, List.map_cons, runL]
      rw [u1, bnd_some']
      simp only [Bool.not_true, br_false]
      exact v1
    · rw [List.any_cons, Bool.or_assoc]
theorem twins_fold (f : Nat → Bool) (x : Nat) (hx : x < 256) : (f x || (bytesF f).any fun b => (twin b).contains x) = foldF f x := by
  unfold foldF
  congr 1
  rw [Bool.eq_iff_iff]
  simp only [List.any_eq_true, Bool.or_eq_true, Bool.and_eq_true, decide_eq_true_eq]
  constructor
  · rintro ⟨b, hb, h⟩
    have hb2 := (mem_iff f 0 b).1 hb
    unfold twin at h
    split at h
    · simp at h; subst h
      right; exact ⟨by omega, by rw [show b - 32 + 32 = b by omega]; exact hb2.2.2⟩
    · split at h
      · simp at h; subst h
        left; exact ⟨by omega, by rw [show b + 32 - 32 = b by omega]; exact hb2.2.2⟩
      · simp at h
  · rintro (⟨h1, h2⟩ | ⟨h1, h2⟩)
    · refine ⟨x - 32, (mem_iff f 0 _).2 ⟨by omega, by omega, h2⟩, ?_⟩
      unfold twin
      rw [if_neg (by omega), if_pos (by omega)]; simp; omega
    · refine ⟨x + 32, (mem_iff f 0 _).2 ⟨by omega, by omega, h2⟩, ?_⟩
      unfold twin
      rw [if_pos (by omega)]; simp
theorem F37_spec (k : Nat) {a : Nat → Int} {f : Nat → Bool} (ha : Is a f) (hk : 256 < k) : ∃ v, F37 k a = some v ∧ Is v (foldF f) := by
  obtain ⟨v, v1, v2⟩ := R37_run k a a (fun _ => 0) hk (bytesF f) a f (mem_lt f 0) ha
  refine ⟨v, ?_, v2.congr fun x hx => twins_fold f x hx⟩
  unfold F37 F39
  rw [bnd_some', F41_spec _ k ha _ hk, v1]; rfl
theorem byte_of {x : Int} (h : IntKind.u8.min ≤ x ∧ x ≤ IntKind.u8.max) : ∃ n : Nat, x = (n : Int) ∧ n < 256 := by
  simp [IntKind.min, IntKind.max, IntKind.signed, IntKind.bits] at h
  exact ⟨x.toNat, by omega, by omega⟩
def bt (x : S54) : Nat := x.Byte.toNat
theorem W54.byte {x : S54} (h : W54 x) : x.Byte = (bt x : Int) ∧ bt x < 256 := by
  obtain ⟨⟨h1, h2⟩, _⟩ := h
  simp [IntKind.min, IntKind.max, IntKind.signed, IntKind.bits] at h1 h2
  unfold bt; omega
def smallF (b : Nat) : Bool := decide (97 ≤ b) && decide (b ≤ 122)
def isF (x : S54) (b : Nat) : Bool := (b == bt x) || ((x.Fold && smallF (bt x)) && b == bt x - 32)
theorem F29_spec (b : Nat) : F29 (b : Int) = some (smallF b) := by
  unfold F29 smallF
  by_cases h : 97 ≤ b
  · rw [show decide ((b : Int) ≥ 97) = true by simp; omega, br_true]; simp [h]; omega
  · rw [show decide ((b : Int) ≥ 97) = false by simp; omega, br_false]; simp [h]
theorem F31_spec (k : Nat) (x : S54) (hx : W54 x) (hk : 256 < k) : ∃ v, F31 k x = some v ∧ Is v (isF x) := by
  obtain ⟨e, hb⟩ := hx.byte
  obtain ⟨a, a1, a2⟩ := F36_spec k [bt x] (by simp) (by intro y hy; simp at hy; omega) (by simp; omega)
  simp only [cs, List.map_cons, List.map_nil] at a1
  unfold F31
  rw [e, a1, bnd_some', F29_spec]
  have a3 : Is a (fun i => i == bt x) := a2.congr fun i _ => by simp only [List.contains_cons, List.contains_nil, Bool.or_false]
  cases hf : x.Fold
  · exact ⟨a, rfl, a3.congr fun i _ => by simp [isF, hf]⟩
  · rw [br_true, bnd_some']
    cases hs : smallF (bt x)
    · exact ⟨a, rfl, a3.congr fun i _ => by simp [isF, hs]⟩
    · rw [br_true]
      obtain ⟨v, v1, v2⟩ := F37_spec k a3 hk
      refine ⟨v, by rw [v1]; rfl, v2.congr fun i hi => ?_⟩
      unfold foldF isF
      rw [hf, hs]
      simp only [smallF, Bool.and_eq_true, decide_eq_true_eq] at hs
      congr 1
      have c1 : (decide (97 ≤ i) && decide (i ≤ 122) && (i - 32 == bt x)) = false := by
        by_cases h1 : 97 ≤ i ∧ i ≤ 122
        · have : (i - 32 == bt x) = false := by simp; omega
          rw [this]; simp
        · have : (decide (97 ≤ i) && decide (i ≤ 122)) = false := by simp; omega
          rw [this]; simp
      rw [c1, Bool.false_or, Bool.eq_iff_iff]
      simp only [Bool.and_eq_true, decide_eq_true_eq, beq_iff_eq, true_and]
      omega
theorem F23_spec (k : Nat) (x : S54) (hx : W54 x) {b : Nat} (hb : b < 256) (hk : 256 < k) : F23 k x (b : Int) = some (isF x b) := by
  obtain ⟨v, v1, v2⟩ := F31_spec k x hx hk
  unfold F23
  rw [v1, bnd_some', F30_spec v2 hb]; rfl
def badL (x : S54) : Bool := x.Fold && !smallF (bt x)
def WL (l : List S54) : Prop := ∀ y ∈ l, W54 y
def bad (l : List S54) : Bool := decide (l.length < 2) || (decide (l.length > 16) || l.any badL)
theorem F22_1_spec (k : Nat) (l : List S54) (hl : l.length ≤ 16) (hW : WL l) : ∀ (n i : Nat), i ≤ l.length → l.length - i < n → F22_1 k l (l.length : Int) n (i : Int) = some (if (l.drop i).any badL then .inl 150 else .inr ())
  | 0, i, _, h => by omega
  | n + 1, i, hi, h => by
    rw [F22_1]
    by_cases hlt : i < l.length
    · have ha : l[i]? = some l[i] := List.getElem?_eq_getElem hlt
      have hw := hW _ (List.getElem_mem hlt)
      rw [show decide ((i : Int) < (l.length : Int)) = true by simpa using hlt, br_true, at_nat, ha, bnd_some', drop_cons ha, List.any_cons, step1 i (by omega), hw.byte.1, F29_spec]
      have ih := F22_1_spec k l hl hW n (i + 1) (by omega) (by omega)
      unfold badL at ih ⊢
      cases hf : l[i].Fold
      · rw [br_false, ih]; simp
      · rw [br_true, bnd_some']
        cases hs : smallF (bt l[i])
        · simp [br]
        · simp only [Bool.not_true, br_false]; rw [ih]; simp
    · rw [show decide ((i : Int) < (l.length : Int)) = false by simpa using hlt, br_false, List.drop_eq_nil_of_le (by omega)]; simp
theorem F22_spec (k : Nat) (l : List S54) (hW : WL l) (hk : 256 < k) : F22 k l = some (if bad l then 150 else 0) := by
  unfold F22 bad
  by_cases h1 : l.length < 2
  · rw [show decide (((l.length : Nat) : Int) < 2) = true by simp; omega, br_true]; simp [h1]
  · rw [show decide (((l.length : Nat) : Int) < 2) = false by simp; omega, br_false]
    by_cases h2 : l.length > 16
    · rw [show decide (((l.length : Nat) : Int) > 16) = true by simp; omega, br_true]; simp [h2]
    · rw [show decide (((l.length : Nat) : Int) > 16) = false by simp; omega, br_false]
      have := F22_1_spec k l (by omega) hW k 0 (by omega) (by omega)
      simp only [Int.cast_ofNat_Int, List.drop_zero] at this
      rw [this, bnd_some', decide_eq_false h1, decide_eq_false h2]
      cases l.any badL <;> rfl
theorem shl8 : ∀ s : Nat, s < 8 → shlI .u8 1 (s : Int) = ((2 ^ s : Nat) : Int) := by decide +kernel
theorem tmod8 (q : Nat) : Int.tmod (q : Int) 8 = ((q % 8 : Nat) : Int) := by rw [Int.tmod_eq_emod_of_nonneg (Int.natCast_nonneg _)]; omega
theorem F10_spec (q : Nat) : F10 (q : Int) = some ((2 ^ (q % 8) : Nat) : Int) := by
  unfold F10
  rw [show decide ((q : Int) < 0) = false by simp, br_false, tmod8, req_pos (by omega), shl8 _ (by omega)]
theorem F11_spec (q : Nat) : F11 (q : Int) = some ((2 ^ (q % 8) : Nat) : Int) := by
  unfold F11
  rw [show decide ((q : Int) < 0) = false by simp, br_false, tmod8, wu64 (by omega) (by omega), req_pos (by omega), shl8 _ (by omega)]
theorem w8 {n : Nat} (h : n < 256) : IntKind.u8.wrap (n : Int) = (n : Int) := wu8n h
theorem or8 (m n : Nat) (hm : m < 256) (hn : n < 256) : bitsI .or .u8 (m : Int) (n : Int) = ((m ||| n : Nat) : Int) := by
  have hlt : m ||| n < 2 ^ 8 := Nat.or_lt_two_pow (by simpa using hm) (by simpa using hn)
  show IntKind.u8.wrap (((BitVec.ofInt 8 (m : Int) ||| BitVec.ofInt 8 (n : Int)).toNat : Nat) : Int) = _
  simp only [BitVec.ofInt_natCast, BitVec.toNat_or, BitVec.toNat_ofNat]
  rw [Nat.mod_eq_of_lt (by simpa using hm), Nat.mod_eq_of_lt (by simpa using hn)]
  exact w8 (by simpa using hlt)
theorem and8 (m n : Nat) (hm : m < 256) (hn : n < 256) : bitsI .and .u8 (m : Int) (n : Int) = ((m &&& n : Nat) : Int) := by
  have hlt : m &&& n < 2 ^ 8 := Nat.and_lt_two_pow _ (by simpa using hn)
  show IntKind.u8.wrap (((BitVec.ofInt 8 (m : Int) &&& BitVec.ofInt 8 (n : Int)).toNat : Nat) : Int) = _
  simp only [BitVec.ofInt_natCast, BitVec.toNat_and, BitVec.toNat_ofNat]
  rw [Nat.mod_eq_of_lt (by simpa using hm), Nat.mod_eq_of_lt (by simpa using hn)]
  exact w8 (by simpa using hlt)
theorem nibs : ∀ b : Nat, b < 256 → bitsI .and .i64 (b : Int) 15 = ((b % 16 : Nat) : Int) ∧ shrI .i64 (b : Int) 4 = ((b / 16 : Nat) : Int) ∧ Int.tmod (b : Int) 16 = ((b % 16 : Nat) : Int) ∧ IntKind.i64.wrap (Int.tdiv (b : Int) 16) = ((b / 16 : Nat) : Int) ∧
    bitsI .and .u8 (b : Int) 15 = ((b % 16 : Nat) : Int) ∧ shrI .u8 (b : Int) 4 = ((b / 16 : Nat) : Int) ∧ IntKind.u8.wrap (Int.tdiv (b : Int) 16) = ((b / 16 : Nat) : Int) := by decide +kernel
def MS (a : Nat → Nat → Int) (f : Nat → Nat → Nat → Bool) : Prop := ∀ i, i < 3 → ∀ c, c < 16 → 0 ≤ a i c ∧ a i c < 256 ∧ ∀ j, j < 8 → (a i c).toNat.testBit j = f i c j
theorem MS.congr {a : Nat → Nat → Int} {f g : Nat → Nat → Nat → Bool} (h : MS a f) (e : ∀ i, i < 3 → ∀ c, c < 16 → ∀ j, j < 8 → f i c j = g i c j) : MS a g :=
  fun i hi c hc => ⟨(h i hi c hc).1, (h i hi c hc).2.1, fun j hj => ((h i hi c hc).2.2 j hj).trans (e i hi c hc j hj)⟩
theorem byte_ext {m n : Nat} (hm : m < 256) (hn : n < 256) (h : ∀ j, j < 8 → m.testBit j = n.testBit j) : m = n := by
  apply Nat.eq_of_testBit_eq
  intro j
  by_cases hj : j < 8
  · exact h j hj
  · have p : 256 ≤ 2 ^ j := Nat.pow_le_pow_right (n := 2) (by omega) (show 8 ≤ j by omega)
    rw [Nat.testBit_lt_two_pow (by omega), Nat.testBit_lt_two_pow (by omega)]
theorem MS.uniq {a b : Nat → Nat → Int} {f : Nat → Nat → Nat → Bool} (ha : MS a f) (hb : MS b f) : ∀ i, i < 3 → ∀ c, c < 16 → a i c = b i c := by
  intro i hi c hc
  obtain ⟨a1, a2, a3⟩ := ha i hi c hc
  obtain ⟨b1, b2, b3⟩ := hb i hi c hc
  have := byte_ext (m := (a i c).toNat) (n := (b i c).toNat) (by omega) (by omega) fun j hj => (a3 j hj).trans (b3 j hj).symm
  omega
theorem MS.set {a : Nat → Nat → Int} {f : Nat → Nat → Nat → Bool} (h : MS a f) {i c : Nat} (hi : i < 3) (hc : c < 16) (q : Nat) :
    MS (upd a i (upd (a i) c (bitsI .or .u8 (a i c) ((2 ^ (q % 8) : Nat) : Int)))) (fun i' c' j => f i' c' j || ((i' == i && j == q % 8) && c' == c)) := by
  intro i' hi' c' hc'
  obtain ⟨h1, h2, h3⟩ := h i hi c hc
  have p : 2 ^ (q % 8) < 256 := by
    have : 2 ^ (q % 8) < 2 ^ 8 := Nat.pow_lt_pow_right (by omega) (by omega)
    simpa using this
  have e : bitsI .or .u8 (a i c) ((2 ^ (q % 8) : Nat) : Int) = (((a i c).toNat ||| 2 ^ (q % 8) : Nat) : Int) := by
    obtain ⟨m, hm⟩ : ∃ m : Nat, a i c = (m : Int) := ⟨(a i c).toNat, by omega⟩
    rw [hm, or8 _ _ (by omega) p]; simp
  have lt : (a i c).toNat ||| 2 ^ (q % 8) < 2 ^ 8 := Nat.or_lt_two_pow (by simp; omega) (by simpa using p)
  simp only [upd]
  by_cases e1 : i' = i
  · rw [if_pos e1]
    simp only [upd]
    by_cases e2 : c' = c
    · rw [if_pos e2, e]
      refine ⟨by omega, by simp at lt; omega, fun j hj => ?_⟩
      rw [Int.toNat_natCast, Nat.testBit_or, Nat.testBit_two_pow, h3 j hj, e1, e2]
      simp only [beq_self_eq_true, Bool.true_and, Bool.and_true]
      congr 1
      rw [Bool.eq_iff_iff]; simp; omega
    · rw [if_neg e2]
      obtain ⟨g1, g2, g3⟩ := h i hi c' hc'
      refine ⟨g1, g2, fun j hj => ?_⟩
      rw [g3 j hj, e1]; simp [e2]
  · rw [if_neg e1]
    obtain ⟨g1, g2, g3⟩ := h i' hi' c' hc'
    refine ⟨g1, g2, fun j hj => ?_⟩
    rw [g3 j hj]; simp [e1]
def RR (b : Nat) (p : Nat → Bool) : Bool := (List.range' b (256 - b)).any p
theorem RR_step {b : Nat} (h : b < 256) (p : Nat → Bool) : RR b p = (p b || RR (b + 1) p) := by
  unfold RR
  rw [show 256 - b = (256 - (b + 1)) + 1 by omega, List.range'_succ, List.any_cons]
theorem RR_done {b : Nat} (h : 256 ≤ b) (p : Nat → Bool) : RR b p = false := by
  unfold RR; rw [show 256 - b = 0 by omega]; rfl
def cnd (x : List S54) (i b : Nat) : Bool := match x[i]? with
  | none => true
  | some y => isF y b
def addB (f : Nat → Nat → Nat → Bool) (x : List S54) (q i b : Nat) (nib : Nat → Nat) (i' c j : Nat) : Bool := f i' c j || ((i' == i && j == q % 8) && RR b fun y => cnd x i y && nib y == c)
theorem addB_no (f : Nat → Nat → Nat → Bool) (x : List S54) (q i b : Nat) (hb : b < 256) (h : cnd x i b = false) (nib : Nat → Nat) (i' c j : Nat) : addB f x q i b nib i' c j = addB f x q i (b + 1) nib i' c j := by
  unfold addB; rw [RR_step hb, h]; simp
theorem addB_yes (f : Nat → Nat → Nat → Bool) (x : List S54) (q i b : Nat) (hb : b < 256) (h : cnd x i b = true) (nib : Nat → Nat) (i' c j : Nat) : addB f x q i b nib i' c j = addB (fun i' c' j => f i' c' j || ((i' == i && j == q % 8) && c' == nib b)) x q i (b + 1) nib i' c j := by
  unfold addB; rw [RR_step hb, h]
  simp only [Bool.true_and]
  rw [show (nib b == c) = (c == nib b) by rw [Bool.eq_iff_iff]; simp; exact eq_comm]
  cases f i' c j <;> cases (i' == i && j == q % 8) <;> cases (c == nib b) <;> cases (RR (b + 1) fun y => cnd x i y && nib y == c) <;> rfl
theorem addB_done (f : Nat → Nat → Nat → Bool) (x : List S54) (q i b : Nat) (hb : 256 ≤ b) (nib : Nat → Nat) (i' c j : Nat) : addB f x q i b nib i' c j = f i' c j := by
  unfold addB; rw [RR_done hb]; simp
theorem F8_3_spec (k : Nat) (hk : 256 < k) (q i : Nat) (hi : i < 3) (x : List S54) (hW : WL x) (hl : x.length < 1000) (x17 : List (List S54)) (x18 x19 x30 : Int) (o0 o48 : Nat → Nat → Int) (o96 o196 : Int) : ∀ (n b : Nat) (lo hi' : Nat → Nat → Int) (f g : Nat → Nat → Nat → Bool), 256 - b < n → b ≤ 256 → MS lo f → MS hi' g →
    ∃ v, F8_3 k (q : Int) x (i : Int) x17 x18 x19 x30 o0 o48 o96 o196 n (b : Int) lo hi' = some v ∧ MS v.1 (addB f x q i b (· % 16)) ∧ MS v.2 (addB g x q i b (· / 16))
  | 0, b, lo, hi', f, g, h, _, _, _ => by omega
  | n + 1, b, lo, hi', f, g, h, hb, h1, h2 => by
    rw [F8_3]
    by_cases hlt : b < 256
    · obtain ⟨e1, e2, _⟩ := nibs b hlt
      rw [show decide ((b : Int) < 256) = true by simp; omega, br_true, e1, e2, F10_spec, step1 b (by omega), wu8n hlt]
      simp only [bnd_some', Int.toNat_natCast]
      have yes : cnd x i b = true → ∃ v, (req (arrOk (i : Int) 3) <| req (arrOk ((b % 16 : Nat) : Int) 16) <| req (arrOk ((b / 16 : Nat) : Int) 16) <| F8_3 k (q : Int) x (i : Int) x17 x18 x19 x30 o0 o48 o96 o196 n ((b + 1 : Nat) : Int) (upd lo i (upd (lo i) (b % 16) (bitsI .or .u8 (lo i (b % 16)) ((2 ^ (q % 8) : Nat) : Int)))) (upd hi' i (upd (hi' i) (b / 16) (bitsI .or .u8 (hi' i (b / 16)) ((2 ^ (q % 8) : Nat) : Int))))) = some v ∧ MS v.1 (addB f x q i b (· % 16)) ∧ MS v.2 (addB g x q i b (· / 16)) := by
        intro hc
        rw [req_pos (by unfold arrOk; omega), req_pos (by unfold arrOk; omega), req_pos (by unfold arrOk; omega)]
        obtain ⟨v, v1, v2, v3⟩ := F8_3_spec k hk q i hi x hW hl x17 x18 x19 x30 o0 o48 o96 o196 n (b + 1) _ _ _ _ (by omega) (by omega) (h1.set hi (c := b % 16) (by omega) q) (h2.set hi (c := b / 16) (by omega) q)
        exact ⟨v, v1, v2.congr fun i' _ c _ j _ => (addB_yes f x q i b hlt hc (· % 16) i' c j).symm, v3.congr fun i' _ c _ j _ => (addB_yes g x q i b hlt hc (· / 16) i' c j).symm⟩
      by_cases hlen : x.length ≤ i
      · rw [show decide ((i : Int) ≥ ((x.length : Nat) : Int)) = true by simp; omega, br_true]
        exact yes (by unfold cnd; rw [List.getElem?_eq_none hlen])
      · rw [show decide ((i : Int) ≥ ((x.length : Nat) : Int)) = false by simp; omega, br_false]
        have ha : x[i]? = some (x[i]'(by omega)) := List.getElem?_eq_getElem (by omega)
        rw [at_nat, ha, bnd_some', F23_spec k _ (hW _ (List.getElem_mem (by omega))) hlt hk, bnd_some']
        cases hc : isF (x[i]'(by omega)) b
        · rw [br_false]
          have hcn : cnd x i b = false := by unfold cnd; rw [ha]; exact hc
          obtain ⟨v, v1, v2, v3⟩ := F8_3_spec k hk q i hi x hW hl x17 x18 x19 x30 o0 o48 o96 o196 n (b + 1) _ _ _ _ (by omega) (by omega) h1 h2
          exact ⟨v, v1, v2.congr fun i' _ c _ j _ => (addB_no f x q i b hlt hcn (· % 16) i' c j).symm, v3.congr fun i' _ c _ j _ => (addB_no g x q i b hlt hcn (· / 16) i' c j).symm⟩
        · rw [br_true]
          exact yes (by unfold cnd; rw [ha]; exact hc)
    · rw [show decide ((b : Int) < 256) = false by simp; omega, br_false]
      exact ⟨_, rfl, h1.congr fun i' _ c _ j _ => (addB_done f x q i b (by omega) _ i' c j).symm, h2.congr fun i' _ c _ j _ => (addB_done g x q i b (by omega) _ i' c j).symm⟩
def addI (f : Nat → Nat → Nat → Bool) (x : List S54) (q i0 : Nat) (nib : Nat → Nat) (i' c j : Nat) : Bool := f i' c j || ((decide (i0 ≤ i') && j == q % 8) && RR 0 fun y => cnd x i' y && nib y == c)
theorem addI_step (f : Nat → Nat → Nat → Bool) (x : List S54) (q i : Nat) (nib : Nat → Nat) (i' c j : Nat) : addI (addB f x q i 0 nib) x q (i + 1) nib i' c j = addI f x q i nib i' c j := by
  unfold addI addB
  by_cases h : i' = i
  · subst h
    have e1 : decide (i' + 1 ≤ i') = false := by simp
    have e2 : decide (i' ≤ i') = true := by simp
    rw [e1, e2]; simp
  · have e1 : decide (i + 1 ≤ i') = decide (i ≤ i') := by
      apply decide_eq_decide.2; omega
    have e2 : (i' == i) = false := by simp [h]
    rw [e1, e2]; simp
theorem F8_2_spec (k : Nat) (hk : 256 < k) (q : Nat) (x : List S54) (hW : WL x) (hl : x.length < 1000) (x17 : List (List S54)) (x18 x19 : Int) (o0 o48 : Nat → Nat → Int) (o96 o196 : Int) : ∀ (n i : Nat) (lo hi' : Nat → Nat → Int) (f g : Nat → Nat → Nat → Bool), 3 - i < n → i ≤ 3 → MS lo f → MS hi' g →
    ∃ v, F8_2 k (q : Int) x x17 x18 x19 o0 o48 o96 o196 n (i : Int) lo hi' = some v ∧ MS v.1 (addI f x q i (· % 16)) ∧ MS v.2 (addI g x q i (· / 16))
  | 0, i, lo, hi', f, g, h, _, _, _ => by omega
  | n + 1, i, lo, hi', f, g, h, hi3, h1, h2 => by
    rw [F8_2]
    by_cases hlt : i < 3
    · rw [show decide ((i : Int) < 3) = true by simp; omega, br_true]
      obtain ⟨u, u1, u2, u3⟩ := F8_3_spec k hk q i hlt x hW hl x17 x18 x19 (i : Int) o0 o48 o96 o196 k 0 lo hi' f g (by omega) (by omega) h1 h2
      simp only [Int.cast_ofNat_Int] at u1
      rw [u1, bnd_some', step1 i (by omega)]
      obtain ⟨v, v1, v2, v3⟩ := F8_2_spec k hk q x hW hl x17 x18 x19 o0 o48 o96 o196 n (i + 1) u.1 u.2 _ _ (by omega) (by omega) u2 u3
      exact ⟨v, v1, v2.congr fun i' _ c _ j _ => addI_step f x q i _ i' c j, v3.congr fun i' _ c _ j _ => addI_step g x q i _ i' c j⟩
    · rw [show decide ((i : Int) < 3) = false by simp; omega, br_false]
      have e : ∀ (f : Nat → Nat → Nat → Bool) (nib : Nat → Nat) (i' : Nat), i' < 3 → ∀ c, c < 16 → ∀ j, j < 8 → f i' c j = addI f x q i nib i' c j := by
        intro f nib i' hi' c _ j _
        unfold addI
        rw [show decide (i ≤ i') = false by simp; omega]; simp
      exact ⟨_, rfl, h1.congr (e f _), h2.congr (e g _)⟩
def addQ (f : Nat → Nat → Nat → Bool) (nib : Nat → Nat) : Nat → List (List S54) → Nat → Nat → Nat → Bool
  | _, [], i', c, j => f i' c j
  | q, x :: l, i', c, j => addQ (addI f x q 0 nib) nib (q + 1) l i' c j
def WQ (l : List (List S54)) : Prop := ∀ x ∈ l, WL x
theorem notbad_len {x : List S54} (h : bad x = false) : x.length ≤ 16 := by
  unfold bad at h
  simp at h; omega
theorem F8_1_spec (k : Nat) (hk : 256 < k) (lits : List (List S54)) (hl : lits.length ≤ 256) (hW : WQ lits) (o0 o48 : Nat → Nat → Int) (o96 o196 : Int) : ∀ (n q : Nat) (lo hi' : Nat → Nat → Int) (f g : Nat → Nat → Nat → Bool), lits.length - q < n → q ≤ lits.length → MS lo f → MS hi' g →
    if (lits.drop q).any bad then ∃ a b, F8_1 k lits (lits.length : Int) o0 o48 o96 o196 n (q : Int) lo hi' = some (.inl (150, ofL (fun _ => (0 : Int)) [(fun _ => (0 : Int)), (fun _ => (0 : Int)), (fun _ => (0 : Int))], ofL (fun _ => (0 : Int)) [(fun _ => (0 : Int)), (fun _ => (0 : Int)), (fun _ => (0 : Int))], 0, a, b))
    else ∃ v, F8_1 k lits (lits.length : Int) o0 o48 o96 o196 n (q : Int) lo hi' = some (.inr v) ∧ MS v.1 (addQ f (· % 16) q (lits.drop q)) ∧ MS v.2 (addQ g (· / 16) q (lits.drop q))
  | 0, q, lo, hi', f, g, h, _, _, _ => by omega
  | n + 1, q, lo, hi', f, g, h, hq, h1, h2 => by
    rw [F8_1]
    by_cases hlt : q < lits.length
    · have ha : lits[q]? = some lits[q] := List.getElem?_eq_getElem hlt
      have hw := hW _ (List.getElem_mem hlt)
      rw [show decide ((q : Int) < (lits.length : Int)) = true by simpa using hlt, br_true, at_nat, ha, bnd_some', F22_spec k _ hw hk, bnd_some', drop_cons ha, List.any_cons]
      cases hb : bad lits[q]
      · simp only [Bool.false_eq_true, if_false, Bool.false_or]
        rw [show ((0 : Int) != 0) = false from rfl, br_false]
        obtain ⟨u, u1, u2, u3⟩ := F8_2_spec k hk q lits[q] hw (by have := notbad_len hb; omega) lits (lits.length : Int) (q : Int) o0 o48 o96 o196 k 0 lo hi' f g (by omega) (by omega) h1 h2
        simp only [Int.cast_ofNat_Int] at u1
        rw [u1, bnd_some', step1 q (by omega)]
        exact F8_1_spec k hk lits hl hW o0 o48 o96 o196 n (q + 1) u.1 u.2 _ _ (by omega) (by omega) u2 u3
      · simp only [if_true, Bool.true_or]
        rw [show ((150 : Int) != 0) = true from rfl, br_true]
        exact ⟨_, _, rfl⟩
    · rw [show decide ((q : Int) < (lits.length : Int)) = false by simpa using hlt, br_false, List.drop_eq_nil_of_le (by omega)]
      simp only [List.any_nil, Bool.false_eq_true, if_false]
      exact ⟨_, rfl, h1, h2⟩
def Z3 : Nat → Nat → Int := ofL (fun _ => (0 : Int)) [(fun _ => (0 : Int)), (fun _ => (0 : Int)), (fun _ => (0 : Int))]
theorem MS.zero : MS Z3 (fun _ _ _ => false) := by
  intro i hi c hc
  have e : Z3 i c = 0 := by
    have : i = 0 ∨ i = 1 ∨ i = 2 := by omega
    rcases this with rfl | rfl | rfl <;> rfl
  rw [e]; simp
def goodQ (lits : List (List S54)) : Bool := decide (lits.length ≤ 256) && !lits.any bad
def Masks (lits : List (List S54)) (v : S26 × Int) : Prop :=
  if goodQ lits then v.2 = 0 ∧ v.1.Many = (lits.length : Int) ∧ MS v.1.Lo (addQ (fun _ _ _ => false) (· % 16) 0 lits) ∧ MS v.1.Hi (addQ (fun _ _ _ => false) (· / 16) 0 lits)
  else v.2 = (if lits.length > 256 then 3 else 150) ∧ v.1 = S26.mk Z3 Z3 0
theorem F8_spec (k : Nat) (lits : List (List S54)) (hW : WQ lits) (hl : lits.length < 4611686018427387904) (hk : 257 < k) : ∃ v, F8 k lits = some v ∧ Masks lits v := by
  unfold F8 Masks goodQ
  by_cases h1 : lits.length > 256
  · rw [show decide (((lits.length : Nat) : Int) > 256) = true by simp; omega, br_true]
    refine ⟨_, rfl, ?_⟩
    rw [show decide (lits.length ≤ 256) = false by simp; omega]
    simp only [Bool.false_and, Bool.false_eq_true, if_false, if_pos h1]
    exact ⟨trivial, rfl⟩
  · rw [show decide (((lits.length : Nat) : Int) > 256) = false by simp; omega, br_false, show decide (lits.length ≤ 256) = true by simp; omega]
    have := F8_1_spec k (by omega) lits (by omega) hW Z3 Z3 0 (lits.length : Int) k 0 Z3 Z3 _ _ (by omega) (by omega) MS.zero MS.zero
    simp only [Int.cast_ofNat_Int, List.drop_zero] at this
    cases hb : lits.any bad
    · rw [hb] at this
      simp only [Bool.false_eq_true, if_false] at this
      obtain ⟨v, v1, v2, v3⟩ := this
      refine ⟨(S26.mk v.1 v.2 (lits.length : Int), 0), ?_, ?_⟩
      · show bnd (F8_1 k lits (lits.length : Int) Z3 Z3 0 (lits.length : Int) k 0 Z3 Z3) _ = _
        rw [v1]; rfl
      · simp only [Bool.not_false, Bool.and_self, if_true]
        exact ⟨trivial, trivial, v2, v3⟩
    · rw [hb] at this
      simp only [if_true] at this
      obtain ⟨a, b, v1⟩ := this
      refine ⟨(S26.mk Z3 Z3 0, 150), ?_, ?_⟩
      · show bnd (F8_1 k lits (lits.length : Int) Z3 Z3 0 (lits.length : Int) k 0 Z3 Z3) _ = _
        rw [v1]; rfl
      · simp only [Bool.not_true, Bool.and_false, Bool.false_eq_true, if_false, if_neg h1]
        exact ⟨trivial, trivial⟩
def lookB (fl fh : Nat → Nat → Nat → Bool) (w : List Nat) (i j : Nat) : Bool := match w[i]? with
  | none => true
  | some b => fl i (b % 16) j && fh i (b / 16) j
def lookF (fl fh : Nat → Nat → Nat → Bool) (w : List Nat) (j : Nat) : Bool := lookB fl fh w 0 j && (lookB fl fh w 1 j && lookB fl fh w 2 j)
def Bits (x : Int) (f : Nat → Bool) : Prop := 0 ≤ x ∧ x < 256 ∧ ∀ j, j < 8 → x.toNat.testBit j = f j
theorem Bits.and {x y : Int} {f g : Nat → Bool} (hx : Bits x f) (hy : Bits y g) : Bits (bitsI .and .u8 x y) (fun j => f j && g j) := by
  obtain ⟨x1, x2, x3⟩ := hx
  obtain ⟨y1, y2, y3⟩ := hy
  obtain ⟨m, rfl⟩ : ∃ m : Nat, x = (m : Int) := ⟨x.toNat, by omega⟩
  obtain ⟨n, rfl⟩ : ∃ n : Nat, y = (n : Int) := ⟨y.toNat, by omega⟩
  rw [and8 m n (by omega) (by omega)]
  have := Nat.and_le_left (n := m) (m := n)
  refine ⟨by omega, by omega, fun j hj => ?_⟩
  rw [Int.toNat_natCast, Nat.testBit_and]
  have a := x3 j hj; have b := y3 j hj
  rw [Int.toNat_natCast] at a b
  rw [a, b]
theorem Bits.congr {x : Int} {f g : Nat → Bool} (h : Bits x f) (e : ∀ j, j < 8 → f j = g j) : Bits x g := ⟨h.1, h.2.1, fun j hj => (h.2.2 j hj).trans (e j hj)⟩
theorem Bits.full : Bits 255 (fun _ => true) := by
  refine ⟨by omega, by omega, ?_⟩
  decide
theorem Bits.zero {x : Int} {f : Nat → Bool} (h : Bits x f) : x = 0 ↔ ∀ j, j < 8 → f j = false := by
  obtain ⟨h1, h2, h3⟩ := h
  constructor
  · rintro rfl j hj
    rw [← h3 j hj]; simp
  · intro hf
    have := byte_ext (m := x.toNat) (n := 0) (by omega) (by omega) fun j hj => by rw [h3 j hj, hf j hj]; simp
    omega
theorem F16_1_spec (k : Nat) (w : List Nat) (hB : Bn w) (hw : w.length ≤ 3) {lo hi : Nat → Nat → Int} {fl fh : Nat → Nat → Nat → Bool} (hl : MS lo fl) (hh : MS hi fh) (o96 : Int) : ∀ (n i : Nat) (x : Int) (f : Nat → Bool), i ≤ w.length → w.length - i < n → Bits x f →
    ∃ v, F16_1 k (cs w) (w.length : Int) lo hi o96 n x (i : Int) = some v ∧ Bits v (fun j => f j && ((List.range' i (w.length - i)).all fun i' => lookB fl fh w i' j))
  | 0, i, x, f, _, h, _ => by omega
  | n + 1, i, x, f, hi', h, hx => by
    rw [F16_1]
    by_cases hlt : i < w.length
    · have ha : w[i]? = some w[i] := List.getElem?_eq_getElem hlt
      have hb := hB _ (List.getElem_mem hlt)
      obtain ⟨_, _, _, _, e1, e2, _⟩ := nibs w[i] hb
      rw [show decide ((i : Int) < (w.length : Int)) = true by simpa using hlt, br_true, at_nat, cs_get, ha]
      simp only [Option.map_some, bnd_some']
      rw [e1, e2, req_pos (by unfold arrOk; omega), req_pos (by unfold arrOk; omega), req_pos (by unfold arrOk; omega), step1 i (by omega)]
      simp only [Int.toNat_natCast]
      have bl : Bits (lo i (w[i] % 16)) (fun j => fl i (w[i] % 16) j) := hl i (by omega) _ (by omega)
      have bh : Bits (hi i (w[i] / 16)) (fun j => fh i (w[i] / 16) j) := hh i (by omega) _ (by omega)
      obtain ⟨v, v1, v2⟩ := F16_1_spec k w hB hw hl hh o96 n (i + 1) _ _ (by omega) (by omega) (hx.and (bl.and bh))
      refine ⟨v, v1, v2.congr fun j _ => ?_⟩
      rw [show w.length - i = (w.length - (i + 1)) + 1 by omega, List.range'_succ, List.all_cons, Bool.and_assoc]
      congr 2
      unfold lookB; rw [ha]
    · rw [show decide ((i : Int) < (w.length : Int)) = false by simpa using hlt, br_false, show w.length - i = 0 by omega]
      exact ⟨_, rfl, hx.congr fun j _ => by simp⟩
theorem cut_cs (l : List Nat) (n : Nat) : cut (cs l) none (some (n : Int)) = cs (l.take n) := by
  unfold cut cs; simp [List.map_take]
theorem cut_cs2 (l : List Nat) (n : Nat) : cut (cs l) (some (n : Int)) none = cs (l.drop n) := by
  unfold cut cs; simp [List.map_drop]
theorem mnN (a b : Nat) : mnI (a : Int) (b : Int) = ((min a b : Nat) : Int) := by
  unfold mnI; split <;> omega
theorem take_min {α : Type} (l : List α) (n : Nat) : l.take (min l.length n) = l.take n := by
  rcases Nat.le_total l.length n with h | h
  · rw [Nat.min_eq_left h, List.take_of_length_le (Nat.le_refl _), List.take_of_length_le h]
  · rw [Nat.min_eq_right h]
theorem F16_spec (k : Nat) (m : S26) (w : List Nat) (hB : Bn w) {fl fh : Nat → Nat → Nat → Bool} (hl : MS m.Lo fl) (hh : MS m.Hi fh) (hk : 256 < k) : ∃ v, F16 k m (cs w) = some v ∧ Bits v (lookF fl fh w) := by
  unfold F16
  rw [cs_len, show (3 : Int) = ((3 : Nat) : Int) from rfl, mnN, req_pos (by unfold cutOk; simp; omega), cut_cs, take_min, cs_len]
  obtain ⟨v, v1, v2⟩ := F16_1_spec k (w.take 3) (fun x hx => hB x (List.mem_of_mem_take hx)) (by simp; omega) hl hh m.Many k 0 255 _ (by omega) (by simp; omega) Bits.full
  simp only [Int.cast_ofNat_Int] at v1
  refine ⟨v, by rw [v1]; rfl, v2.congr fun j _ => ?_⟩
  have e : ∀ i, i < 3 → lookB fl fh (w.take 3) i j = lookB fl fh w i j := by
    intro i hi; unfold lookB; rw [List.getElem?_take, if_pos hi]
  have e2 : ∀ i, w.length ≤ i → lookB fl fh w i j = true := by
    intro i hi; unfold lookB; rw [List.getElem?_eq_none hi]
  unfold lookF
  simp only [Bool.true_and, List.length_take]
  have hc : w.length = 0 ∨ w.length = 1 ∨ w.length = 2 ∨ 3 ≤ w.length := by omega
  rcases hc with h | h | h | h
  · rw [h, e2 0 (by omega), e2 1 (by omega), e2 2 (by omega)]; rfl
  · rw [h, e2 1 (by omega), e2 2 (by omega), ← e 0 (by omega)]; simp [List.range']
  · rw [h, e2 2 (by omega), ← e 0 (by omega), ← e 1 (by omega)]; simp [List.range']
  · rw [Nat.min_eq_left h, ← e 0 (by omega), ← e 1 (by omega), ← e 2 (by omega)]; simp [List.range']
theorem mxN (a : Nat) (h : a < 4611686018427387904) : mxI 0 (IntKind.i64.wrap ((a : Int) - 1)) = ((a - 1 : Nat) : Int) := by
  rw [w64 (by omega) (by omega)]
  unfold mxI; split <;> omega
def Seen (fl fh : Nat → Nat → Nat → Bool) (w : List Nat) : Nat → Nat → List S41 → Prop
  | 0, _, l => l = []
  | n + 1, p, l => ∃ x, Bits x (lookF fl fh (w.drop p)) ∧ ((x = 0 ∧ Seen fl fh w n (p + 1) l) ∨ (x ≠ 0 ∧ ∃ l', l = S41.mk (p : Int) x :: l' ∧ Seen fl fh w n (p + 1) l'))
theorem scan_run (k : Nat) (hk : 256 < k) (m : S26) (v0 : List Int × S26) (w : List Nat) (hw : w.length < 1000000) (hB : Bn w) {fl fh : Nat → Nat → Nat → Bool} (hl : MS m.Lo fl) (hh : MS m.Hi fh) (lo hi : Nat → Nat → Int) (many : Int) : ∀ (d n p : Nat) (s : List S41), p + d = w.length - 1 → d < n → s.length ≤ p →
    ∃ l, F35_1 (R12_1 k v0 lo hi many) k (cs w) m ((w.length - 1 : Nat) : Int) n s (p : Int) = some (s ++ l) ∧ Seen fl fh w d p l
  | 0, n, p, s, h, hn, hs => by
    obtain ⟨n, rfl⟩ : ∃ n', n = n' + 1 := ⟨n - 1, by omega⟩
    rw [F35_1, show decide ((p : Int) < ((w.length - 1 : Nat) : Int)) = false by simp; omega, br_false]
    exact ⟨[], by simp, rfl⟩
  | d + 1, n, p, s, h, hn, hs => by
    obtain ⟨n, rfl⟩ : ∃ n', n = n' + 1 := ⟨n - 1, by omega⟩
    obtain ⟨x, x1, x2⟩ := F16_spec k m (w.drop p) (fun y hy => hB y (List.mem_of_mem_drop hy)) hl hh hk
    rw [F35_1, show decide ((p : Int) < ((w.length - 1 : Nat) : Int)) = true by simp; omega, br_true, cs_len, req_pos (by unfold cutOk; simp; omega), cut_cs2, x1, bnd_some', step1 p (by omega)]
    by_cases hx : x = 0
    · rw [show (x != 0) = false by simp [hx], br_false]
      obtain ⟨l, l1, l2⟩ := scan_run k hk m v0 w hw hB hl hh lo hi many d n (p + 1) s (by omega) (by omega) (by omega)
      exact ⟨l, l1, x, x2, .inl ⟨hx, l2⟩⟩
    · rw [show (x != 0) = true by simp [hx], br_true]
      unfold R12_1
      rw [req_pos (by simp only [fits, List.length_cons, List.length_nil]; omega), bnd_some']
      simp only [Bool.not_true, br_false]
      obtain ⟨l, l1, l2⟩ := scan_run k hk m v0 w hw hB hl hh lo hi many d n (p + 1) (s ++ [S41.mk (p : Int) x]) (by omega) (by omega) (by simp; omega)
      refine ⟨S41.mk (p : Int) x :: l, ?_, x, x2, .inr ⟨hx, l, rfl, l2⟩⟩
      unfold R12_1 at l1
      rw [l1]; simp
theorem F12_spec (k : Nat) (m : S26) (w : List Nat) (hB : Bn w) (hw : w.length < 1000000) {fl fh : Nat → Nat → Nat → Bool} (hl : MS m.Lo fl) (hh : MS m.Hi fh) (hk : w.length + 256 < k) : ∃ l, F12 k m (cs w) = some l ∧ Seen fl fh w (w.length - 1) 0 l := by
  unfold F12 F26 F35
  rw [bnd_some']
  simp only []
  rw [cs_len, mxN w.length (by omega)]
  obtain ⟨l, l1, l2⟩ := scan_run k (by omega) m (cs w, m) w hw hB hl hh m.Lo m.Hi m.Many (w.length - 1) k 0 [] (by omega) (by omega) (by simp)
  simp only [Int.cast_ofNat_Int, List.nil_append] at l1
  exact ⟨l, by rw [l1]; rfl, l2⟩
theorem bits_eq {x : Int} {f : Nat → Bool} (h : Bits x f) (n : Nat) (hn : n < 256) (e : ∀ j, j < 8 → f j = n.testBit j) : x = (n : Int) := by
  obtain ⟨h1, h2, h3⟩ := h
  have := byte_ext (m := x.toNat) (n := n) (by omega) hn fun j hj => by rw [h3 j hj, e j hj]
  omega
def liveL : List (List S54) := [[S54.mk 97 false, S54.mk 98 false]]
theorem F7_spec (k : Nat) (hk : 300 < k) : F7 k = some true := by
  have hW : WQ liveL := by
    intro x hx y hy
    simp [liveL] at hx
    subst hx
    simp at hy
    rcases hy with rfl | rfl <;> (unfold W54; decide)
  obtain ⟨v, v1, v2⟩ := F8_spec k liveL hW (by simp [liveL]) (by omega)
  unfold Masks at v2
  rw [show goodQ liveL = true by decide] at v2
  simp only [if_true] at v2
  obtain ⟨a1, a2, a3, a4⟩ := v2
  obtain ⟨l, l1, l2⟩ := F12_spec k v.1 [120, 97, 98] (by intro x hx; simp at hx; omega) (by simp) a3 a4 (by simp; omega)
  have bl : ∀ i, i < 3 → ∀ c, c < 16 → Bits (v.1.Lo i c) (addQ (fun _ _ _ => false) (· % 16) 0 liveL i c) := fun i hi c hc => a3 i hi c hc
  have bh : ∀ i, i < 3 → ∀ c, c < 16 → Bits (v.1.Hi i c) (addQ (fun _ _ _ => false) (· / 16) 0 liveL i c) := fun i hi c hc => a4 i hi c hc
  have e1 : v.1.Lo 0 1 = ((1 : Nat) : Int) := bits_eq (bl 0 (by omega) 1 (by omega)) 1 (by omega) (by decide +kernel)
  have e2 : v.1.Hi 0 6 = ((1 : Nat) : Int) := bits_eq (bh 0 (by omega) 6 (by omega)) 1 (by omega) (by decide +kernel)
  have e3 : v.1.Lo 2 9 = ((1 : Nat) : Int) := bits_eq (bl 2 (by omega) 9 (by omega)) 1 (by omega) (by decide +kernel)
  have hl : l = [S41.mk 1 1] := by
    obtain ⟨x, x1, x2⟩ := l2
    rcases x2 with ⟨_, y, y1, y2⟩ | ⟨hx, _⟩
    rotate_left
    · exact absurd (x1.zero.2 (by decide +kernel)) hx
    have hy := bits_eq y1 1 (by omega) (by decide +kernel)
    rcases y2 with ⟨h0, _⟩ | ⟨_, l', h1, h2⟩
    · rw [hy] at h0; cases h0
    · rw [h1, hy, show l' = [] from h2]; rfl
  unfold F7
  show bnd (F8 k liveL) _ = _
  rw [v1, bnd_some', show ([120, 97, 98] : List Int) = cs [120, 97, 98] from rfl, l1, bnd_some', a1, hl, e1, e2, e3]
  rfl
theorem WQ.of {x : List (List S54)} (h : ∀ y ∈ x, (∀ y' ∈ y, W54 y')) : WQ x := h
theorem Seen.len {fl fh : Nat → Nat → Nat → Bool} {w : List Nat} : ∀ {d p : Nat} {l : List S41}, Seen fl fh w d p l → l.length ≤ d
  | 0, p, l, h => by rw [show l = [] from h]; simp
  | d + 1, p, l, h => by
    obtain ⟨x, x1, ⟨_, h3⟩ | ⟨_, l', rfl, h3⟩⟩ := h
    · have := Seen.len h3; omega
    · have := Seen.len h3; simp; omega
theorem Bits.uniq {x y : Int} {f : Nat → Bool} (hx : Bits x f) (hy : Bits y f) : x = y := by
  obtain ⟨x1, x2, x3⟩ := hx
  obtain ⟨y1, y2, y3⟩ := hy
  have := byte_ext (m := x.toNat) (n := y.toNat) (by omega) (by omega) fun j hj => by rw [x3 j hj, y3 j hj]
  omega
theorem Seen.uniq {fl fh : Nat → Nat → Nat → Bool} {w : List Nat} : ∀ {d p : Nat} {l l' : List S41}, Seen fl fh w d p l → Seen fl fh w d p l' → l = l'
  | 0, p, l, l', h, h' => by rw [show l = [] from h, show l' = [] from h']
  | d + 1, p, l, l', h, h' => by
    obtain ⟨x, x1, x2⟩ := h
    obtain ⟨y, y1, y2⟩ := h'
    have e := x1.uniq y1
    subst e
    rcases x2 with ⟨hx, h3⟩ | ⟨hx, m, rfl, h3⟩
    · rcases y2 with ⟨_, h4⟩ | ⟨hy, _⟩
      · exact Seen.uniq h3 h4
      · exact absurd hx hy
    · rcases y2 with ⟨hy, _⟩ | ⟨_, m', rfl, h4⟩
      · exact absurd hy hx
      · rw [Seen.uniq h3 h4]
theorem F17_1_spec (k : Nat) (w : List Nat) (hB : Bn w) {lo hi : Nat → Nat → Int} {fl fh : Nat → Nat → Nat → Bool} (hl : MS lo fl) (hh : MS hi fh) (o96 : Int) : ∀ (n i : Nat) (x : Int) (f : Nat → Bool), i ≤ 3 → i ≤ w.length → 3 - i < n → Bits x f →
    ∃ v, F17_1 k (cs w) lo hi o96 n x (i : Int) = some v ∧ Bits v (fun j => f j && ((List.range' i (3 - i)).all fun i' => lookB fl fh w i' j))
  | 0, i, x, f, _, _, h, _ => by omega
  | n + 1, i, x, f, hi3, hiw, h, hx => by
    rw [F17_1, cs_len]
    by_cases hlt : i < w.length
    · rw [show decide ((i : Int) < (w.length : Int)) = true by simpa using hlt, br_true]
      by_cases h3 : i < 3
      · have ha : w[i]? = some w[i] := List.getElem?_eq_getElem hlt
        have hb := hB _ (List.getElem_mem hlt)
        obtain ⟨_, _, e1, _, _, _, e2⟩ := nibs w[i] hb
        rw [show decide ((i : Int) < 3) = true by simp; omega, br_true, at_nat, cs_get, ha]
        simp only [Option.map_some, bnd_some']
        rw [e1, e2, req_pos (by unfold arrOk; omega), req_pos (by unfold arrOk; omega), req_pos (by unfold arrOk; omega), step1 i (by omega)]
        simp only [Int.toNat_natCast]
        have bl : Bits (lo i (w[i] % 16)) (fun j => fl i (w[i] % 16) j) := hl i (by omega) _ (by omega)
        have bh : Bits (hi i (w[i] / 16)) (fun j => fh i (w[i] / 16) j) := hh i (by omega) _ (by omega)
        obtain ⟨v, v1, v2⟩ := F17_1_spec k w hB hl hh o96 n (i + 1) _ _ (by omega) (by omega) (by omega) (hx.and (bl.and bh))
        refine ⟨v, v1, v2.congr fun j _ => ?_⟩
        rw [show 3 - i = (3 - (i + 1)) + 1 by omega, List.range'_succ, List.all_cons, Bool.and_assoc]
        congr 2
        unfold lookB; rw [ha]
      · rw [show decide ((i : Int) < 3) = false by simp; omega, br_false, show 3 - i = 0 by omega]
        exact ⟨_, rfl, hx.congr fun j _ => by simp⟩
    · rw [show decide ((i : Int) < (w.length : Int)) = false by simpa using hlt, br_false]
      refine ⟨_, rfl, hx.congr fun j _ => ?_⟩
      have : ((List.range' i (3 - i)).all fun i' => lookB fl fh w i' j) = true := by
        rw [List.all_eq_true]
        intro i' hi'
        have := List.mem_range'_1.1 hi'
        unfold lookB; rw [List.getElem?_eq_none (by omega)]
      rw [this, Bool.and_true]
theorem F17_spec (k : Nat) (m : S26) (w : List Nat) (hB : Bn w) {fl fh : Nat → Nat → Nat → Bool} (hl : MS m.Lo fl) (hh : MS m.Hi fh) (hk : 256 < k) : ∃ v, F17 k m (cs w) = some v ∧ Bits v (lookF fl fh w) := by
  obtain ⟨v, v1, v2⟩ := F17_1_spec k w hB hl hh m.Many k 0 255 _ (by omega) (by omega) (by omega) Bits.full
  simp only [Int.cast_ofNat_Int] at v1
  refine ⟨v, by unfold F17; rw [v1]; rfl, v2.congr fun j _ => ?_⟩
  unfold lookF
  simp [List.range']
theorem F19_1_spec (k : Nat) (hk : 256 < k) (m : S26) (w : List Nat) (hw : w.length < 1000000) (hB : Bn w) {fl fh : Nat → Nat → Nat → Bool} (hl : MS m.Lo fl) (hh : MS m.Hi fh) : ∀ (d n p : Nat) (s : List S41), p + d = w.length - 1 → d < n → s.length ≤ p →
    ∃ l, F19_1 k (cs w) m.Lo m.Hi m.Many n s (p : Int) = some (s ++ l) ∧ Seen fl fh w d p l
  | 0, n, p, s, h, hn, hs => by
    obtain ⟨n, rfl⟩ : ∃ n', n = n' + 1 := ⟨n - 1, by omega⟩
    rw [F19_1, cs_len, w64 (by omega) (by omega), show decide ((p : Int) + 2 ≤ (w.length : Int)) = false by simp; omega, br_false]
    exact ⟨[], by simp, rfl⟩
  | d + 1, n, p, s, h, hn, hs => by
    obtain ⟨n, rfl⟩ : ∃ n', n = n' + 1 := ⟨n - 1, by omega⟩
    obtain ⟨x, x1, x2⟩ := F17_spec k m (w.drop p) (fun y hy => hB y (List.mem_of_mem_drop hy)) hl hh hk
    rw [F19_1, cs_len, w64 (by omega) (by omega), show decide ((p : Int) + 2 ≤ (w.length : Int)) = true by simp; omega, br_true, req_pos (by unfold cutOk; omega), cut_cs2]
    show ∃ l, (bnd (F17 k m (cs (w.drop p))) _) = _ ∧ _
    rw [x1, bnd_some', step1 p (by omega)]
    by_cases hx : x = 0
    · rw [show (x != 0) = false by simp [hx], br_false]
      obtain ⟨l, l1, l2⟩ := F19_1_spec k hk m w hw hB hl hh d n (p + 1) s (by omega) (by omega) (by omega)
      exact ⟨l, l1, x, x2, .inl ⟨hx, l2⟩⟩
    · rw [show (x != 0) = true by simp [hx], br_true, req_pos (by simp only [fits, List.length_cons, List.length_nil]; omega)]
      obtain ⟨l, l1, l2⟩ := F19_1_spec k hk m w hw hB hl hh d n (p + 1) (s ++ [S41.mk (p : Int) x]) (by omega) (by omega) (by simp; omega)
      exact ⟨S41.mk (p : Int) x :: l, by rw [l1]; simp, x, x2, .inr ⟨hx, l, rfl, l2⟩⟩
theorem F19_spec (k : Nat) (m : S26) (w : List Nat) (hB : Bn w) (hw : w.length < 1000000) {fl fh : Nat → Nat → Nat → Bool} (hl : MS m.Lo fl) (hh : MS m.Hi fh) (hk : w.length + 256 < k) : ∃ l, F19 k m (cs w) = some l ∧ Seen fl fh w (w.length - 1) 0 l := by
  obtain ⟨l, l1, l2⟩ := F19_1_spec k (by omega) m w hw hB hl hh (w.length - 1) k 0 [] (by omega) (by omega) (by simp)
  simp only [Int.cast_ofNat_Int, List.nil_append] at l1
  exact ⟨l, by unfold F19; rw [l1]; rfl, l2⟩
theorem F18_1_spec (k : Nat) (L : List S41) (hL : L.length < 1000000) : ∀ (n i : Nat), i ≤ L.length → L.length - i < n → F18_1 k L L (L.length : Int) n (i : Int) = some (.inr ())
  | 0, i, _, h => by omega
  | n + 1, i, hi, h => by
    rw [F18_1]
    by_cases hlt : i < L.length
    · rw [show decide ((i : Int) < (L.length : Int)) = true by simpa using hlt, br_true, at_nat, List.getElem?_eq_getElem hlt]
      simp only [bnd_some', beq_self_eq_true, Bool.and_true, Bool.not_true, br_false]
      rw [step1 i (by omega)]
      exact F18_1_spec k L hL n (i + 1) (by omega) (by omega)
    · rw [show decide ((i : Int) < (L.length : Int)) = false by simpa using hlt, br_false]
theorem F18_spec (k : Nat) (L : List S41) (hL : L.length < 1000000) (hk : 1000000 < k) : F18 k L L = some true := by
  unfold F18
  have := F18_1_spec k L hL k 0 (by omega) (by omega)
  simp only [Int.cast_ofNat_Int] at this
  rw [this]
  simp [br, bnd, alt]
theorem F20_1_spec (k : Nat) (L : List Int) (hL : L.length < 1000000) : ∀ (n i : Nat), i ≤ L.length → L.length - i < n → F20_1 k L L (L.length : Int) n (i : Int) = some (.inr ())
  | 0, i, _, h => by omega
  | n + 1, i, hi, h => by
    rw [F20_1]
    by_cases hlt : i < L.length
    · rw [show decide ((i : Int) < (L.length : Int)) = true by simpa using hlt, br_true, at_nat, List.getElem?_eq_getElem hlt]
      simp only [bnd_some', bne_self_eq_false, br_false]
      rw [step1 i (by omega)]
      exact F20_1_spec k L hL n (i + 1) (by omega) (by omega)
    · rw [show decide ((i : Int) < (L.length : Int)) = false by simpa using hlt, br_false]
theorem F20_spec (k : Nat) (L : List Int) (hL : L.length < 1000000) (hk : 1000000 < k) : F20 k L L = some true := by
  unfold F20
  have := F20_1_spec k L hL k 0 (by omega) (by omega)
  simp only [Int.cast_ofNat_Int] at this
  rw [this]
  simp [br, bnd, alt]
def inB (b : Nat) (q : Nat) : Bool := decide (2 ^ (q % 8) &&& b ≠ 0)
def memB (b i N : Nat) : List Int := cs ((List.range' i (N - i)).filter (inB b))
theorem memB_step (b : Nat) {i N : Nat} (h : i < N) : memB b i N = if inB b i then (i : Int) :: memB b (i + 1) N else memB b (i + 1) N := by
  unfold memB cs
  rw [show N - i = (N - (i + 1)) + 1 by omega, List.range'_succ, List.filter_cons]
  split <;> simp
theorem memB_len (b i N : Nat) : (memB b i N).length ≤ N - i := by
  unfold memB
  rw [cs_len]
  have := List.length_filter_le (inB b) (List.range' i (N - i))
  rwa [List.length_range'] at this
theorem ofB_lt (q : Nat) : 2 ^ (q % 8) < 256 := by
  have : 2 ^ (q % 8) < 2 ^ 8 := Nat.pow_lt_pow_right (by omega) (by omega)
  simpa using this
theorem inB_code (b q : Nat) (hb : b < 256) : ((bitsI .and .u8 ((2 ^ (q % 8) : Nat) : Int) (b : Int) : Int) != 0) = inB b q := by
  rw [and8 _ _ (ofB_lt q) hb]
  unfold inB
  rw [Bool.eq_iff_iff]; simp only [bne_iff_ne, ne_eq, decide_eq_true_eq]; omega
theorem inB_ref (b q : Nat) (hb : b < 256) : ((bitsI .and .u8 (b : Int) ((2 ^ (q % 8) : Nat) : Int) : Int) != 0) = inB b q := by
  rw [and8 _ _ hb (ofB_lt q), Nat.and_comm]
  unfold inB
  rw [Bool.eq_iff_iff]; simp only [bne_iff_ne, ne_eq, decide_eq_true_eq]; omega
theorem memb_run (k : Nat) (a1 : List Int) (a2 : Int) (v3 : S26 × Int) (lo hi : Nat → Nat → Int) (many : Int) (b : Nat) (hb : b < 256) (N : Nat) (hN : N ≤ 256) : ∀ (n i : Nat) (s : List Int), N - i < n → i ≤ N → s.length ≤ i → F28_1 (R6_1 k a1 a2 v3 lo hi many) k (b : Int) (N : Int) n s (i : Int) = some (s ++ memB b i N)
  | 0, i, s, h, _, _ => by omega
  | n + 1, i, s, h, hi', hs => by
    rw [F28_1]
    by_cases hlt : i < N
    · rw [show decide ((i : Int) < (N : Int)) = true by simpa using hlt, br_true, F10_spec, bnd_some', inB_code b i hb, memB_step b hlt, step1 i (by omega)]
      cases inB b i
      · rw [br_false]
        simp only [Bool.false_eq_true, if_false]
        exact memb_run k a1 a2 v3 lo hi many b hb N hN n (i + 1) s (by omega) (by omega) (by omega)
      · rw [br_true]
        unfold R6_1
        rw [req_pos (by simp only [fits, List.length_cons, List.length_nil]; omega), bnd_some']
        simp only [Bool.not_true, br_false, if_true]
        have := memb_run k a1 a2 v3 lo hi many b hb N hN n (i + 1) (s ++ [(i : Int)]) (by omega) (by omega) (by simp; omega)
        unfold R6_1 at this
        rw [this]; simp
    · rw [show decide ((i : Int) < (N : Int)) = false by simpa using hlt, br_false]
      unfold memB
      rw [show N - i = 0 by omega]; simp [cs]
theorem F21_1_spec (k : Nat) (lo hi : Nat → Nat → Int) (many : Int) (b : Nat) (hb : b < 256) (N : Nat) (hN : N = min many.toNat 256) : ∀ (n i : Nat) (s : List Int), N - i < n → i ≤ N → s.length ≤ i → F21_1 k (b : Int) lo hi many n s (i : Int) = some (s ++ memB b i N)
  | 0, i, s, h, _, _ => by omega
  | n + 1, i, s, h, hi', hs => by
    rw [F21_1]
    by_cases hlt : i < N
    · rw [show decide ((i : Int) < many) = true by simp; omega, br_true, show decide ((i : Int) < 256) = true by simp; omega, br_true, F11_spec, bnd_some', inB_ref b i hb, memB_step b hlt, step1 i (by omega)]
      cases inB b i
      · rw [br_false]
        simp only [Bool.false_eq_true, if_false]
        exact F21_1_spec k lo hi many b hb N hN n (i + 1) s (by omega) (by omega) (by omega)
      · rw [br_true, req_pos (by simp only [fits, List.length_cons, List.length_nil]; omega)]
        simp only [if_true]
        rw [F21_1_spec k lo hi many b hb N hN n (i + 1) (s ++ [(i : Int)]) (by omega) (by omega) (by simp; omega)]; simp
    · have e : memB b i N = [] := by
        unfold memB
        rw [show N - i = 0 by omega]; rfl
      rw [e]
      by_cases h1 : (i : Int) < many
      · rw [show decide ((i : Int) < many) = true by simpa using h1, br_true, show decide ((i : Int) < 256) = false by simp; omega, br_false]; simp
      · rw [show decide ((i : Int) < many) = false by simpa using h1, br_false]; simp
theorem manyN (many : Int) : mxI 0 (mnI many 256) = ((min many.toNat 256 : Nat) : Int) := by
  unfold mxI mnI
  split <;> split <;> omega
theorem MS.self {a : Nat → Nat → Int} (h : ∀ i, i < 3 → ∀ c, c < 16 → 0 ≤ a i c ∧ a i c < 256) : MS a (fun i c j => (a i c).toNat.testBit j) :=
  fun i hi c hc => ⟨(h i hi c hc).1, (h i hi c hc).2, fun _ _ => rfl⟩
theorem W26.masks {m : S26} (h : W26 m) : MS m.Lo (fun i c j => (m.Lo i c).toNat.testBit j) ∧ MS m.Hi (fun i c j => (m.Hi i c).toNat.testBit j) := by
  obtain ⟨h1, h2, _⟩ := h
  refine ⟨MS.self fun i hi c hc => ?_, MS.self fun i hi c hc => ?_⟩
  · have := h1 i hi c hc
    simp [IntKind.min, IntKind.max, IntKind.signed, IntKind.bits] at this; omega
  · have := h2 i hi c hc
    simp [IntKind.min, IntKind.max, IntKind.signed, IntKind.bits] at this; omega
theorem bucketLooks (x0 : S26) (x1 : (List Int)) (x2 : Int) (w0 : W26 x0) (w1 : ∀ y ∈ x1, (IntKind.u8.min ≤ y ∧ y ≤ IntKind.u8.max)) (w2 : IntKind.u8.min ≤ x2 ∧ x2 ≤ IntKind.u8.max) (hsz : bkX [E26 x0, (EL 1 (EI .u8)) x1, (EI .u8) x2] ≤ 1048576) : ∃ k, F6 k x0 x1 x2 = some true := by
  obtain ⟨w, rfl, hB⟩ := cs_of w1
  obtain ⟨b, rfl, hb⟩ := byte_of w2
  obtain ⟨ml, mh⟩ := w0.masks
  refine ⟨3000000, ?_⟩
  have hB80 : Bn (w.take 80) := fun x hx => hB x (List.mem_of_mem_take hx)
  have hl80 : (w.take 80).length ≤ 80 := by simp; omega
  generalize hw : w.take 80 = w' at hB80 hl80
  obtain ⟨v5, p5, q5⟩ := F16_spec 3000000 x0 w' hB80 ml mh (by omega)
  obtain ⟨v6, p6, q6⟩ := F17_spec 3000000 x0 w' hB80 ml mh (by omega)
  obtain ⟨v8, p8, q8⟩ := F12_spec 3000000 x0 w' hB80 (by omega) ml mh (by omega)
  obtain ⟨v9, p9, q9⟩ := F19_spec 3000000 x0 w' hB80 (by omega) ml mh (by omega)
  obtain rfl := q5.uniq q6
  obtain rfl := q8.uniq q9
  have hl8 := q8.len
  have r28 := memb_run 3000000 (cs w) (b : Int) (x0, (b : Int)) x0.Lo x0.Hi x0.Many b hb (min x0.Many.toNat 256) (by omega) 3000000 0 [] (by omega) (by omega) (by simp)
  have r21 := F21_1_spec 3000000 x0.Lo x0.Hi x0.Many b hb (min x0.Many.toNat 256) rfl 3000000 0 [] (by omega) (by omega) (by simp)
  simp only [Int.cast_ofNat_Int, List.nil_append] at r28 r21
  have hml := memB_len b 0 (min x0.Many.toNat 256)
  unfold F6 F15 F28 F21
  rw [F7_spec _ (by omega), bnd_some', cs_len, show (80 : Int) = ((80 : Nat) : Int) from rfl, mnN, cut_cs, take_min, hw, req_pos (by unfold cutOk; simp; omega), bnd_some']
  simp only [Bool.not_true, br_false]
  rw [manyN, r28]
  simp only [bnd_some']
  rw [p5, p6, p8, p9]
  simp only [bnd_some', beq_self_eq_true, br_true]
  rw [F18_spec _ _ (by omega) (by omega), r21]
  simp only [bnd_some', br_true]
  rw [F20_spec _ _ (by omega) (by omega)]; rfl

end Go.Ev
