/- Plain laws of the printed functions of this seat. Conditions: none beyond each theorem's own. -/
import Derived.Test.YtjbefkechgnhbaaPa3
import Derived.Laws.Closers25
set_option linter.unusedVariables false
set_option linter.unusedSimpArgs false
namespace Go.Ev
theorem w64 {n : Int} (h0 : -9223372036854775808 ≤ n) (h1 : n < 9223372036854775808) : IntKind.i64.wrap n = n := by
 simp [IntKind.wrap, IntKind.bits, IntKind.signed]; split <;> omega
theorem at_nat {α : Type} (xs : List α) (i : Nat) : at? xs (i : Int) = xs[i]? := by simp [at?]
theorem br_true {α : Type} (a b : Option α) : br true a b = a := rfl
theorem br_false {α : Type} (a b : Option α) : br false a b = b := rfl
theorem bnd_some' {α β : Type} (a : α) (f : α → Option β) : bnd (some a) f = f a := rfl
theorem req_pos {α : Type} {p : Prop} [Decidable p] (h : p) (a : Option α) : req p a = a := by simp [req, h]
theorem alt_inl {α β γ : Type} (x : α) (f : α → Option γ) (g : β → Option γ) : alt (.inl x) f g = f x := rfl
theorem alt_inr {α β γ : Type} (x : β) (f : α → Option γ) (g : β → Option γ) : alt (.inr x) f g = g x := rfl
theorem step1 (i : Nat) (h : i < 4611686018427387904) : IntKind.i64.wrap ((i : Int) + 1) = ((i + 1 : Nat) : Int) := by rw [w64 (by omega) (by omega)]; simp
theorem fit {n b : Nat} (h : n ≤ 100000) (hb : b ≤ 100) : fits n b := by
 have : n * b ≤ 100000 * 100 := Nat.mul_le_mul h hb
 exact ⟨by omega, by omega⟩
theorem mkf {n : Nat} {b : Nat} (h : n ≤ 100000) (hb : b ≤ 100) : mkFits (n : Int) (n : Int) b := by
 have : b * n ≤ 100 * 100000 := Nat.mul_le_mul hb h
 refine ⟨by omega, by omega, ?_, by omega⟩
 have : ((b * n : Nat) : Int) ≤ 10000000 := by omega
 rw [Int.natCast_mul] at this
 omega

abbrev SP := Nat → Nat → Bool
def row (n : Nat) (g : Nat → Bool) : List Bool := (List.range (n + 1)).map g
def tb (n : Nat) (f : SP) : List (List Bool) := (List.range (n + 1)).map fun i => row n (f i)
theorem tb_len (n : Nat) (f : SP) : (tb n f).length = n + 1 := by simp [tb]
theorem row_len (n : Nat) (g : Nat → Bool) : (row n g).length = n + 1 := by simp [row]
theorem row_at {n i : Nat} (g : Nat → Bool) (h : i ≤ n) : at? (row n g) (i : Int) = some (g i) := by
 rw [at_nat]; simp [row, Nat.lt_succ_of_le h]
theorem tb_at {n i : Nat} (f : SP) (h : i ≤ n) : at? (tb n f) (i : Int) = some (row n (f i)) := by
 rw [at_nat]; simp [tb, Nat.lt_succ_of_le h]
theorem row_set (n j : Nat) (g : Nat → Bool) (v : Bool) : (row n g).set j v = row n (fun b => if b = j then v else g b) := by
 apply List.ext_getElem?
 intro i
 rw [List.getElem?_set]
 simp only [row, List.length_map, List.length_range, List.getElem?_map]
 by_cases h : j = i
 ·subst h
  by_cases h1 : j < n + 1
  ·simp [h1]
  ·simp [h1]
 ·have h' : ¬ i = j := fun e => h e.symm
  simp only [if_neg h]
  by_cases h1 : i < n + 1
  ·simp [h1, h']
  ·simp [h1]
theorem tb_set (n i : Nat) (f : SP) (g : Nat → Bool) : (tb n f).set i (row n g) = tb n (fun a => if a = i then g else f a) := by
 apply List.ext_getElem?
 intro j
 rw [List.getElem?_set]
 simp only [tb, List.length_map, List.length_range, List.getElem?_map]
 by_cases h : i = j
 ·subst h
  by_cases h1 : i < n + 1
  ·simp [h1]
  ·simp [h1]
 ·have h' : ¬ j = i := fun e => h e.symm
  simp only [if_neg h]
  by_cases h1 : j < n + 1
  ·simp [h1, h']
  ·simp [h1]
theorem row_ext {n : Nat} {f g : Nat → Bool} (h : ∀ i, i ≤ n → f i = g i) : row n f = row n g := by
 simp only [row]
 apply List.map_congr_left
 intro i hi
 exact h i (Nat.le_of_lt_succ (List.mem_range.1 hi))
theorem tb_ext {n : Nat} {f g : SP} (h : ∀ i j, i ≤ n → j ≤ n → f i j = g i j) : tb n f = tb n g := by
 simp only [tb]
 apply List.map_congr_left
 intro i hi
 exact row_ext fun j hj => h i j (Nat.le_of_lt_succ (List.mem_range.1 hi)) hj
theorem row_rep (n : Nat) : List.replicate (n + 1) false = row n (fun _ => false) := by
 apply List.ext_getElem?
 intro i
 simp only [row, List.getElem?_replicate, List.getElem?_map]
 by_cases h1 : i < n + 1 <;> simp [h1]
theorem tb_lenm (n : Nat) (f : SP) (h : n ≤ 100000) : IntKind.i64.wrap (((tb n f).length : Int) - 1) = (n : Int) := by
 rw [tb_len, w64 (by omega) (by omega)]; omega
def put (f : SP) (i j : Nat) (v : Bool) : SP := fun a b => if a = i ∧ b = j then v else f a b
theorem tb_put (n i j : Nat) (f : SP) (v : Bool) : (tb n f).set i ((row n (f i)).set j v) = tb n (put f i j v) := by
 rw [row_set, tb_set]
 apply tb_ext
 intro a b _ _
 simp only [put]
 by_cases h : a = i
 ·subst h
  by_cases h2 : b = j <;> simp [h2]
 ·simp [h]

def part (n i : Nat) : List (List Bool) := (List.range (n + 1)).map fun a => if a < i then row n (fun _ => false) else []
theorem part_set {n i : Nat} (h : i ≤ n) : (part n i).set i (row n (fun _ => false)) = part n (i + 1) := by
 apply List.ext_getElem?
 intro j
 rw [List.getElem?_set]
 simp only [part, List.length_map, List.length_range, List.getElem?_map]
 by_cases h1 : i = j
 ·subst h1
  simp [Nat.lt_succ_of_le h]
 ·simp only [if_neg h1]
  by_cases h2 : j < n + 1
  ·have : (j < i + 1) = (j < i) := by apply propext; omega
   simp [h2, this]
  ·simp [h2]
theorem F37_1_spec (k n : Nat) (hn : n ≤ 1000) : ∀ (m i : Nat), i ≤ n + 1 → n + 1 - i < m → F37_1 k (n : Int) ((n + 1 : Nat) : Int) m (part n i) (i : Int) = some (tb n fun _ _ => false)
 | 0, i, hi, h => by omega
 | m + 1, i, hi, h => by
  rw [F37_1]
  by_cases hlt : i < n + 1
  ·rw [decide_eq_true (by omega : (i : Int) < ((n + 1 : Nat) : Int)), br_true, step1 n (by omega), req_pos (mkf (by omega) (by omega))]
   have e : at? (part n i) (i : Int) = some [] := by
    rw [at_nat]; simp [part, hlt]
   rw [e, bnd_some']
   simp only [Int.toNat_natCast]
   rw [row_rep, part_set (by omega), step1 i (by omega)]
   exact F37_1_spec k n hn m (i + 1) (by omega) (by omega)
  ·rw [decide_eq_false (by omega : ¬ (i : Int) < ((n + 1 : Nat) : Int)), br_false]
   congr 1
   simp only [part, tb]
   apply List.map_congr_left
   intro a ha
   rw [if_pos (by have := List.mem_range.1 ha; omega)]
theorem F37_spec {k n : Nat} (hn : n ≤ 1000) (hk : n + 1 < k) : F37 k (n : Int) = some (tb n fun _ _ => false) := by
 unfold F37
 rw [step1 n (by omega), req_pos (mkf (by omega) (by omega))]
 simp only [Int.toNat_natCast, List.length_replicate]
 have e : List.replicate (n + 1) ([] : List Bool) = part n 0 := by
  apply List.ext_getElem?
  intro i
  simp only [part, List.getElem?_replicate, List.getElem?_map]
  by_cases h1 : i < n + 1 <;> simp [h1]
 rw [e]
 have := F37_1_spec k n hn k 0 (by omega) (by omega)
 rw [show ((0 : Nat) : Int) = 0 from rfl] at this
 rw [this]; rfl
theorem F39_1_spec (k n : Nat) (hn : n ≤ 1000) : ∀ (m i : Nat), i ≤ n + 1 → n + 1 - i < m → F39_1 k (n : Int) m (List.replicate i (row n fun _ => false)) (i : Int) = some (tb n fun _ _ => false)
 | 0, i, hi, h => by omega
 | m + 1, i, hi, h => by
  rw [F39_1]
  by_cases hlt : i ≤ n
  ·rw [decide_eq_true (by omega : (i : Int) ≤ (n : Int)), br_true, step1 n (by omega), req_pos (mkf (by omega) (by omega)), req_pos (fit (by simp; omega) (by omega))]
   simp only [Int.toNat_natCast]
   rw [row_rep, step1 i (by omega), ← List.replicate_succ']
   exact F39_1_spec k n hn m (i + 1) (by omega) (by omega)
  ·rw [decide_eq_false (by omega : ¬ (i : Int) ≤ (n : Int)), br_false]
   obtain rfl : i = n + 1 := by omega
   congr 1
   apply List.ext_getElem?
   intro a
   simp only [tb, List.getElem?_replicate, List.getElem?_map]
   by_cases h1 : a < n + 1 <;> simp [h1]
theorem F39_spec {k n : Nat} (hn : n ≤ 1000) (hk : n + 1 < k) : F39 k (n : Int) = some (tb n fun _ _ => false) := by
 unfold F39
 have := F39_1_spec k n hn k 0 (by omega) (by omega)
 rw [show ((0 : Nat) : Int) = 0 from rfl, List.replicate_zero] at this
 rw [this]; rfl
def seqS (n : Nat) (f g : SP) : SP := fun a b => (List.range (n + 1)).any fun q => decide (a ≤ q) && f a q && decide (q ≤ b) && g q b
def seqF (n : Nat) (f g : SP) (p : Nat) (a b : Nat) : Bool := (List.range (n + 1)).any fun q => decide (p ≤ q) && f a q && decide (q ≤ b) && g q b
theorem seqF_end {n p : Nat} (f g : SP) (a b : Nat) (h : n < p) : seqF n f g p a b = false := by
 simp only [seqF, List.any_eq_false, List.mem_range]
 intro q hq
 have : ¬ p ≤ q := by omega
 simp [this]
theorem seqF_step {n p : Nat} (f g : SP) (a b : Nat) (h : p ≤ n) : seqF n f g p a b = ((f a p && decide (p ≤ b) && g p b) || seqF n f g (p + 1) a b) := by
 rw [Bool.eq_iff_iff]
 simp only [seqF, List.any_eq_true, List.mem_range, Bool.or_eq_true, Bool.and_eq_true, decide_eq_true_eq]
 constructor
 ·rintro ⟨q, hq, ⟨⟨h1, h2⟩, h3⟩, h4⟩
  by_cases e : q = p
  ·subst e; exact .inl ⟨⟨h2, h3⟩, h4⟩
  ·exact .inr ⟨q, hq, ⟨⟨by omega, h2⟩, h3⟩, h4⟩
 ·rintro (⟨⟨h2, h3⟩, h4⟩ | ⟨q, hq, ⟨⟨h1, h2⟩, h3⟩, h4⟩)
  ·exact ⟨p, by omega, ⟨⟨Nat.le_refl _, h2⟩, h3⟩, h4⟩
  ·exact ⟨q, hq, ⟨⟨by omega, h2⟩, h3⟩, h4⟩
theorem seqF_self (n : Nat) (f g : SP) (a b : Nat) : seqF n f g a a b = seqS n f g a b := rfl

def upd3 (g : SP) (i q p : Nat) (u : SP) : SP := fun a b => if a = i ∧ p ≤ b then u a b || g q b else u a b
theorem upd3_put {n i q p : Nat} (g u : SP) : ∀ a b, a ≤ n → b ≤ n → upd3 g i q (p + 1) (put u i p (u i p || g q p)) a b = upd3 g i q p u a b := by
 intro a b _ _
 simp only [upd3, put]
 by_cases h : a = i
 ·subst h
  by_cases h1 : b = p
  ·subst h1
   have : ¬ (b + 1 ≤ b) := by omega
   simp [this]
  ·by_cases h2 : p ≤ b
   ·have : p + 1 ≤ b := by omega
    simp [h1, h2, this]
   ·have : ¬ p + 1 ≤ b := by omega
    simp [h1, h2, this]
 ·simp [h]
theorem upd3_end {n i q p : Nat} (g u : SP) (h : n < p) : ∀ a b, a ≤ n → b ≤ n → upd3 g i q p u a b = u a b := by
 intro a b _ hb
 simp only [upd3]
 rw [if_neg (by omega)]

theorem F61_3_spec (k n : Nat) (f g : SP) (i q : Nat) (hi : i ≤ n) (hq : q ≤ n) (hn : n ≤ 1000) : ∀ (m p : Nat) (u : SP), p ≤ n + 1 → n + 1 - p < m →
  F61_3 k (tb n f) (tb n g) (i : Int) (q : Int) m (tb n u) (p : Int) = some (tb n (upd3 g i q p u))
 | 0, p, u, hp, h => by omega
 | m + 1, p, u, hp, h => by
  rw [F61_3, tb_len]
  by_cases hlt : p ≤ n
  ·rw [decide_eq_true (by omega : (p : Int) < ((n + 1 : Nat) : Int)), br_true, tb_at u hi, bnd_some', row_at _ hlt, bnd_some']
   simp only [Int.toNat_natCast, tb_put, step1 p (by omega : p < 4611686018427387904)]
   have key : F61_3 k (tb n f) (tb n g) (i : Int) (q : Int) m (tb n (put u i p (u i p || g q p))) ((p + 1 : Nat) : Int) = some (tb n (upd3 g i q p u)) := by
    rw [F61_3_spec k n f g i q hi hq hn m (p + 1) _ (by omega) (by omega)]
    congr 1
    exact tb_ext fun a b ha hb => upd3_put g u a b ha hb
   cases hu : u i p
   ·rw [br_false, tb_at g hq, bnd_some', row_at _ hlt, bnd_some']
    rw [hu, Bool.false_or] at key
    exact key
   ·rw [br_true]
    rw [hu, Bool.true_or] at key
    exact key
  ·rw [decide_eq_false (by omega : ¬ (p : Int) < ((n + 1 : Nat) : Int)), br_false]
   congr 1
   exact tb_ext fun a b ha hb => (upd3_end g u (by omega) a b ha hb).symm

def upd2 (n : Nat) (f g : SP) (i p : Nat) (u : SP) : SP := fun a b => if a = i then u a b || seqF n f g p a b else u a b
theorem upd2_step {n i p : Nat} (f g u : SP) (hp : p ≤ n) (ht : f i p = true) : ∀ a b, upd2 n f g i (p + 1) (upd3 g i p p u) a b = upd2 n f g i p u a b := by
 intro a b
 simp only [upd2, upd3]
 by_cases h : a = i
 ·subst h
  rw [if_pos rfl, if_pos rfl, seqF_step f g a b hp, ht]
  by_cases h2 : p ≤ b
  ·rw [if_pos ⟨rfl, h2⟩]; simp [h2, Bool.or_assoc]
  ·rw [if_neg (by simp [h2])]; simp [h2]
 ·simp [h]
theorem upd2_skip {n i p : Nat} (f g u : SP) (hp : p ≤ n) (ht : f i p = false) : ∀ a b, upd2 n f g i (p + 1) u a b = upd2 n f g i p u a b := by
 intro a b
 simp only [upd2]
 by_cases h : a = i
 ·subst h
  rw [if_pos rfl, if_pos rfl, seqF_step f g a b hp, ht]; simp
 ·simp [h]
theorem upd2_end {n i p : Nat} (f g u : SP) (hp : n < p) : ∀ a b, upd2 n f g i p u a b = u a b := by
 intro a b
 simp only [upd2, seqF_end f g a b hp]
 simp

theorem F61_2_spec (k n : Nat) (f g : SP) (i : Nat) (hi : i ≤ n) (hn : n ≤ 1000) (hk : n + 1 < k) : ∀ (m p : Nat) (u : SP), p ≤ n + 1 → n + 1 - p < m →
  F61_2 k (tb n f) (tb n g) (i : Int) m (tb n u) (p : Int) = some (tb n (upd2 n f g i p u), ((i + 1 : Nat) : Int))
 | 0, p, u, hp, h => by omega
 | m + 1, p, u, hp, h => by
  rw [F61_2, tb_len]
  by_cases hlt : p ≤ n
  ·rw [show ((p : Int) == ((n + 1 : Nat) : Int)) = false by simp; omega, br_false, tb_at f hi, bnd_some', row_at _ hlt, bnd_some', step1 p (by omega)]
   cases ht : f i p
   ·rw [br_false, F61_2_spec k n f g i hi hn hk m (p + 1) u (by omega) (by omega)]
    rw [tb_ext fun a b _ _ => upd2_skip f g u hlt ht a b]
   ·rw [br_true, F61_3_spec k n f g i p hi hlt hn k p u (by omega) (by omega), bnd_some', F61_2_spec k n f g i hi hn hk m (p + 1) _ (by omega) (by omega)]
    rw [tb_ext fun a b _ _ => upd2_step f g u hlt ht a b]
  ·obtain rfl : p = n + 1 := by omega
   rw [show (((n + 1 : Nat) : Int) == ((n + 1 : Nat) : Int)) = true by simp, br_true, step1 i (by omega), tb_ext fun a b _ _ => upd2_end f g u (Nat.lt_succ_self n) a b]

def upd1 (n : Nat) (f g : SP) (p : Nat) (u : SP) : SP := fun a b => if p ≤ a then u a b || seqS n f g a b else u a b
theorem upd1_step {n p : Nat} (f g u : SP) : ∀ a b, upd1 n f g (p + 1) (upd2 n f g p p u) a b = upd1 n f g p u a b := by
 intro a b
 simp only [upd1, upd2]
 by_cases h : a = p
 ·subst h
  rw [if_neg (by omega), if_pos rfl, if_pos (Nat.le_refl _), seqF_self]
 ·by_cases h2 : p ≤ a
  ·rw [if_pos (by omega), if_neg h, if_pos h2]
  ·rw [if_neg (by omega), if_neg h, if_neg h2]
theorem upd1_end {n p : Nat} (f g u : SP) (hp : n < p) : ∀ a b, a ≤ n → upd1 n f g p u a b = u a b := by
 intro a b ha
 simp only [upd1]
 rw [if_neg (by omega)]
theorem upd1_new (n : Nat) (f g : SP) : upd1 n f g 0 (fun _ _ => false) = seqS n f g := by
 funext a b
 simp [upd1]

theorem F61_1_spec (k n : Nat) (f g : SP) (hn : n ≤ 1000) (hk : n + 1 < k) : ∀ (m p : Nat) (u : SP), p ≤ n + 1 → n + 1 - p < m →
  F61_1 k (tb n f) (tb n g) m (tb n u) (p : Int) = some (tb n (upd1 n f g p u))
 | 0, p, u, hp, h => by omega
 | m + 1, p, u, hp, h => by
  rw [F61_1, tb_len]
  by_cases hlt : p ≤ n
  ·rw [show ((p : Int) == ((n + 1 : Nat) : Int)) = false by simp; omega, br_false, F61_2_spec k n f g p hlt hn hk k p u (by omega) (by omega), bnd_some',
    F61_1_spec k n f g hn hk m (p + 1) _ (by omega) (by omega), tb_ext fun a b _ _ => upd1_step f g u a b]
  ·obtain rfl : p = n + 1 := by omega
   rw [show (((n + 1 : Nat) : Int) == ((n + 1 : Nat) : Int)) = true by simp, br_true, tb_ext fun a b ha _ => upd1_end f g u (Nat.lt_succ_self n) a b ha]
theorem F61_spec {k n : Nat} (f g : SP) (hn : n ≤ 1000) (hk : n + 1 < k) : F61 k (tb n f) (tb n g) = some (tb n (seqS n f g)) := by
 unfold F61
 rw [tb_lenm n f (by omega), F37_spec hn hk, bnd_some']
 have := F61_1_spec k n f g hn hk k 0 (fun _ _ => false) (by omega) (by omega)
 rw [show ((0 : Nat) : Int) = 0 from rfl] at this
 rw [this, upd1_new]; rfl

theorem F40_3_false (k n : Nat) (f g : SP) (i q : Nat) (hi : i ≤ n) (hq : q ≤ n) (ht : f i q = false) (m : Nat) (u : SP) (p : Int) : F40_3 k (tb n f) (tb n g) (i : Int) (q : Int) (m + 1) (tb n u) p = some (tb n u) := by
 rw [F40_3, tb_at f hi, bnd_some', row_at _ hq, bnd_some', ht, br_false]
theorem F40_3_spec (k n : Nat) (f g : SP) (i q : Nat) (hi : i ≤ n) (hq : q ≤ n) (hn : n ≤ 1000) (ht : f i q = true) : ∀ (m p : Nat) (u : SP), p ≤ n + 1 → n + 1 - p < m →
  F40_3 k (tb n f) (tb n g) (i : Int) (q : Int) m (tb n u) (p : Int) = some (tb n (upd3 g i q p u))
 | 0, p, u, hp, h => by omega
 | m + 1, p, u, hp, h => by
  rw [F40_3, tb_at f hi, bnd_some', row_at _ hq, bnd_some', ht, br_true, tb_len]
  by_cases hlt : p ≤ n
  ·rw [decide_eq_true (by omega : (p : Int) < ((n + 1 : Nat) : Int)), br_true, tb_at u hi, bnd_some', row_at _ hlt, bnd_some']
   simp only [Int.toNat_natCast, tb_put, step1 p (by omega : p < 4611686018427387904)]
   have key : F40_3 k (tb n f) (tb n g) (i : Int) (q : Int) m (tb n (put u i p (u i p || g q p))) ((p + 1 : Nat) : Int) = some (tb n (upd3 g i q p u)) := by
    rw [F40_3_spec k n f g i q hi hq hn ht m (p + 1) _ (by omega) (by omega)]
    congr 1
    exact tb_ext fun a b ha hb => upd3_put g u a b ha hb
   cases hu : u i p
   ·rw [br_false, tb_at g hq, bnd_some', row_at _ hlt, bnd_some']
    rw [hu, Bool.false_or] at key
    exact key
   ·rw [br_true]
    rw [hu, Bool.true_or] at key
    exact key
  ·rw [decide_eq_false (by omega : ¬ (p : Int) < ((n + 1 : Nat) : Int)), br_false]
   congr 1
   exact tb_ext fun a b ha hb => (upd3_end g u (by omega) a b ha hb).symm
theorem F40_2_spec (k n : Nat) (f g : SP) (i : Nat) (hi : i ≤ n) (hn : n ≤ 1000) (hk : n + 1 < k) : ∀ (m p : Nat) (u : SP), p ≤ n + 1 → n + 1 - p < m →
  F40_2 k (tb n f) (tb n g) (i : Int) m (tb n u) (p : Int) = some (tb n (upd2 n f g i p u))
 | 0, p, u, hp, h => by omega
 | m + 1, p, u, hp, h => by
  rw [F40_2, tb_len]
  by_cases hlt : p ≤ n
  ·rw [decide_eq_true (by omega : (p : Int) < ((n + 1 : Nat) : Int)), br_true, step1 p (by omega)]
   cases ht : f i p
   ·obtain ⟨k', rfl⟩ : ∃ k', k = k' + 1 := ⟨k - 1, by omega⟩
    rw [F40_3_false _ n f g i p hi hlt ht, bnd_some', F40_2_spec _ n f g i hi hn hk m (p + 1) u (by omega) (by omega)]
    rw [tb_ext fun a b _ _ => upd2_skip f g u hlt ht a b]
   ·rw [F40_3_spec k n f g i p hi hlt hn ht k p u (by omega) (by omega), bnd_some', F40_2_spec k n f g i hi hn hk m (p + 1) _ (by omega) (by omega)]
    rw [tb_ext fun a b _ _ => upd2_step f g u hlt ht a b]
  ·obtain rfl : p = n + 1 := by omega
   rw [decide_eq_false (by omega : ¬ ((n + 1 : Nat) : Int) < ((n + 1 : Nat) : Int)), br_false, tb_ext fun a b _ _ => upd2_end f g u (Nat.lt_succ_self n) a b]
theorem F40_1_spec (k n : Nat) (f g : SP) (hn : n ≤ 1000) (hk : n + 1 < k) : ∀ (m p : Nat) (u : SP), p ≤ n + 1 → n + 1 - p < m →
  F40_1 k (tb n f) (tb n g) m (tb n u) (p : Int) = some (tb n (upd1 n f g p u))
 | 0, p, u, hp, h => by omega
 | m + 1, p, u, hp, h => by
  rw [F40_1, tb_len]
  by_cases hlt : p ≤ n
  ·rw [decide_eq_true (by omega : (p : Int) < ((n + 1 : Nat) : Int)), br_true, step1 p (by omega), F40_2_spec k n f g p hlt hn hk k p u (by omega) (by omega), bnd_some',
    F40_1_spec k n f g hn hk m (p + 1) _ (by omega) (by omega), tb_ext fun a b _ _ => upd1_step f g u a b]
  ·obtain rfl : p = n + 1 := by omega
   rw [decide_eq_false (by omega : ¬ ((n + 1 : Nat) : Int) < ((n + 1 : Nat) : Int)), br_false, tb_ext fun a b ha _ => upd1_end f g u (Nat.lt_succ_self n) a b ha]
theorem F40_spec {k n : Nat} (f g : SP) (hn : n ≤ 1000) (hk : n + 1 < k) : F40 k (tb n f) (tb n g) = some (tb n (seqS n f g)) := by
 unfold F40
 rw [tb_lenm n f (by omega), F39_spec hn hk, bnd_some']
 have := F40_1_spec k n f g hn hk k 0 (fun _ _ => false) (by omega) (by omega)
 rw [show ((0 : Nat) : Int) = 0 from rfl] at this
 rw [this, upd1_new]; rfl

def altS (f g : SP) : SP := fun a b => f a b || g a b
def updR (h : SP) (i p : Nat) (u : SP) : SP := fun a b => if a = i ∧ p ≤ b then h a b else u a b
theorem updR_put {i p : Nat} (h u : SP) : ∀ a b, updR h i (p + 1) (put u i p (h i p)) a b = updR h i p u a b := by
 intro a b
 simp only [updR, put]
 by_cases e : a = i
 ·subst e
  by_cases h1 : b = p
  ·subst h1
   have : ¬ (b + 1 ≤ b) := by omega
   simp [this]
  ·by_cases h2 : p ≤ b
   ·have : p + 1 ≤ b := by omega
    simp [h1, h2, this]
   ·have : ¬ p + 1 ≤ b := by omega
    simp [h1, h2, this]
 ·simp [e]
theorem updR_end {n i p : Nat} (h u : SP) (hp : n < p) : ∀ a b, b ≤ n → updR h i p u a b = u a b := by
 intro a b hb
 simp only [updR]
 rw [if_neg (by omega)]
def updQ (h : SP) (p : Nat) (u : SP) : SP := fun a b => if p ≤ a then h a b else u a b
theorem updQ_step {p : Nat} (h u : SP) : ∀ a b, updQ h (p + 1) (updR h p 0 u) a b = updQ h p u a b := by
 intro a b
 simp only [updQ, updR]
 by_cases e : a = p
 ·subst e
  rw [if_neg (by omega), if_pos ⟨rfl, Nat.zero_le _⟩, if_pos (Nat.le_refl _)]
 ·by_cases h2 : p ≤ a
  ·rw [if_pos (by omega), if_pos h2]
  ·rw [if_neg (by omega), if_neg (by simp [e]), if_neg h2]
theorem updQ_end {n p : Nat} (h u : SP) (hp : n < p) : ∀ a b, a ≤ n → updQ h p u a b = u a b := by
 intro a b ha
 simp only [updQ]
 rw [if_neg (by omega)]
theorem updQ_new (h u : SP) : updQ h 0 u = h := by
 funext a b; simp [updQ]

theorem F62_2_spec (k n : Nat) (f g : SP) (i : Nat) (hi : i ≤ n) (hn : n ≤ 1000) (x13 : Int) : ∀ (m p : Nat) (u : SP), p ≤ n + 1 → n + 1 - p < m →
  F62_2 k (tb n f) (tb n g) (i : Int) x13 (i : Int) ((n + 1 : Nat) : Int) m (tb n u) (p : Int) = some (tb n (updR (altS f g) i p u))
 | 0, p, u, hp, h => by omega
 | m + 1, p, u, hp, h => by
  rw [F62_2]
  by_cases hlt : p ≤ n
  ·rw [decide_eq_true (by omega : (p : Int) < ((n + 1 : Nat) : Int)), br_true, tb_at u hi, bnd_some', tb_at f hi, bnd_some', row_at _ hlt, bnd_some', tb_at g hi, bnd_some', row_at _ hlt, bnd_some', row_at _ hlt, bnd_some', bnd_some']
   simp only [Int.toNat_natCast, tb_put, step1 p (by omega : p < 4611686018427387904)]
   have key : F62_2 k (tb n f) (tb n g) (i : Int) x13 (i : Int) ((n + 1 : Nat) : Int) m (tb n (put u i p (altS f g i p))) ((p + 1 : Nat) : Int) = some (tb n (updR (altS f g) i p u)) := by
    rw [F62_2_spec k n f g i hi hn x13 m (p + 1) _ (by omega) (by omega)]
    congr 1
    exact tb_ext fun a b _ _ => updR_put _ u a b
   cases hu : f i p
   ·rw [br_false]
    rw [show altS f g i p = g i p by simp [altS, hu]] at key
    exact key
   ·rw [br_true]
    rw [show altS f g i p = true by simp [altS, hu]] at key
    exact key
  ·rw [decide_eq_false (by omega : ¬ (p : Int) < ((n + 1 : Nat) : Int)), br_false]
   congr 1
   exact tb_ext fun a b _ hb => (updR_end _ u (by omega) a b hb).symm
theorem F62_1_spec (k n : Nat) (f g : SP) (hn : n ≤ 1000) (hk : n + 1 < k) : ∀ (m p : Nat) (u : SP), p ≤ n + 1 → n + 1 - p < m →
  F62_1 k (tb n f) (tb n g) ((n + 1 : Nat) : Int) m (tb n u) (p : Int) = some (tb n (updQ (altS f g) p u))
 | 0, p, u, hp, h => by omega
 | m + 1, p, u, hp, h => by
  rw [F62_1, tb_len]
  by_cases hlt : p ≤ n
  ·rw [decide_eq_true (by omega : (p : Int) < ((n + 1 : Nat) : Int)), br_true, step1 p (by omega)]
   have := F62_2_spec k n f g p hlt hn ((n + 1 : Nat) : Int) k 0 u (by omega) (by omega)
   rw [show ((0 : Nat) : Int) = 0 from rfl] at this
   rw [this, bnd_some', F62_1_spec k n f g hn hk m (p + 1) _ (by omega) (by omega), tb_ext fun a b _ _ => updQ_step _ u a b]
  ·rw [decide_eq_false (by omega : ¬ (p : Int) < ((n + 1 : Nat) : Int)), br_false]
   congr 1
   exact tb_ext fun a b ha _ => (updQ_end _ u (by omega) a b ha).symm
theorem F62_spec {k n : Nat} (f g : SP) (hn : n ≤ 1000) (hk : n + 1 < k) : F62 k (tb n f) (tb n g) = some (tb n (altS f g)) := by
 unfold F62
 rw [tb_lenm n f (by omega), F37_spec hn hk, bnd_some']
 have := F62_1_spec k n f g hn hk k 0 (fun _ _ => false) (by omega) (by omega)
 rw [show ((0 : Nat) : Int) = 0 from rfl] at this
 rw [tb_len, this, updQ_new]; rfl
theorem F41_2_spec (k n : Nat) (f g : SP) (i : Nat) (hi : i ≤ n) (hn : n ≤ 1000) : ∀ (m p : Nat) (u : SP), p ≤ n + 1 → n + 1 - p < m →
  F41_2 k (tb n f) (tb n g) (i : Int) m (tb n u) (p : Int) = some (tb n (updR (altS f g) i p u))
 | 0, p, u, hp, h => by omega
 | m + 1, p, u, hp, h => by
  rw [F41_2, tb_len]
  by_cases hlt : p ≤ n
  ·rw [decide_eq_true (by omega : (p : Int) < ((n + 1 : Nat) : Int)), br_true, tb_at u hi, bnd_some', tb_at f hi, bnd_some', row_at _ hlt, bnd_some', tb_at g hi, bnd_some', row_at _ hlt, bnd_some', row_at _ hlt, bnd_some', bnd_some']
   simp only [Int.toNat_natCast, tb_put, step1 p (by omega : p < 4611686018427387904)]
   have key : F41_2 k (tb n f) (tb n g) (i : Int) m (tb n (put u i p (altS f g i p))) ((p + 1 : Nat) : Int) = some (tb n (updR (altS f g) i p u)) := by
    rw [F41_2_spec k n f g i hi hn m (p + 1) _ (by omega) (by omega)]
    congr 1
    exact tb_ext fun a b _ _ => updR_put _ u a b
   cases hu : f i p
   ·rw [br_false]
    rw [show altS f g i p = g i p by simp [altS, hu]] at key
    exact key
   ·rw [br_true]
    rw [show altS f g i p = true by simp [altS, hu]] at key
    exact key
  ·rw [decide_eq_false (by omega : ¬ (p : Int) < ((n + 1 : Nat) : Int)), br_false]
   congr 1
   exact tb_ext fun a b _ hb => (updR_end _ u (by omega) a b hb).symm
theorem F41_1_spec (k n : Nat) (f g : SP) (hn : n ≤ 1000) (hk : n + 1 < k) : ∀ (m p : Nat) (u : SP), p ≤ n + 1 → n + 1 - p < m →
  F41_1 k (tb n f) (tb n g) m (tb n u) (p : Int) = some (tb n (updQ (altS f g) p u))
 | 0, p, u, hp, h => by omega
 | m + 1, p, u, hp, h => by
  rw [F41_1, tb_len]
  by_cases hlt : p ≤ n
  ·rw [decide_eq_true (by omega : (p : Int) < ((n + 1 : Nat) : Int)), br_true, step1 p (by omega)]
   have := F41_2_spec k n f g p hlt hn k 0 u (by omega) (by omega)
   rw [show ((0 : Nat) : Int) = 0 from rfl] at this
   rw [this, bnd_some', F41_1_spec k n f g hn hk m (p + 1) _ (by omega) (by omega), tb_ext fun a b _ _ => updQ_step _ u a b]
  ·rw [decide_eq_false (by omega : ¬ (p : Int) < ((n + 1 : Nat) : Int)), br_false]
   congr 1
   exact tb_ext fun a b ha _ => (updQ_end _ u (by omega) a b ha).symm
theorem F41_spec {k n : Nat} (f g : SP) (hn : n ≤ 1000) (hk : n + 1 < k) : F41 k (tb n f) (tb n g) = some (tb n (altS f g)) := by
 unfold F41
 rw [tb_lenm n f (by omega), F39_spec hn hk, bnd_some']
 have := F41_1_spec k n f g hn hk k 0 (fun _ _ => false) (by omega) (by omega)
 rw [show ((0 : Nat) : Int) = 0 from rfl] at this
 rw [this, updQ_new]; rfl
theorem wu64 {n : Int} (h0 : 0 ≤ n) (h1 : n < 18446744073709551616) : IntKind.u64.wrap n = n := by
 simp [IntKind.wrap, IntKind.bits, IntKind.signed]; omega
theorem byteNums : ∀ n : Nat, n < 256 → shrI .u8 (n : Int) 6 = ((n / 64 : Nat) : Int) ∧ bitsI .and .u8 (n : Int) 63 = ((n % 64 : Nat) : Int) ∧ IntKind.u8.wrap (Int.tdiv (n : Int) 64) = ((n / 64 : Nat) : Int) ∧ Int.tmod (n : Int) 64 = ((n % 64 : Nat) : Int) ∧
  shrI .i64 (n : Int) 6 = ((n / 64 : Nat) : Int) ∧ bitsI .and .i64 (n : Int) 63 = ((n % 64 : Nat) : Int) := by decide +kernel
theorem and64 (m n : Nat) (hm : m < 18446744073709551616) (hn : n < 18446744073709551616) : bitsI .and .u64 (m : Int) (n : Int) = ((m &&& n : Nat) : Int) := by
 have hlt : m &&& n < 2 ^ 64 := Nat.and_lt_two_pow _ (by simpa using hn)
 show IntKind.u64.wrap (((BitVec.ofInt 64 (m : Int) &&& BitVec.ofInt 64 (n : Int)).toNat : Nat) : Int) = _
 simp only [BitVec.ofInt_natCast, BitVec.toNat_and, BitVec.toNat_ofNat]
 rw [Nat.mod_eq_of_lt (by simpa using hm), Nat.mod_eq_of_lt (by simpa using hn)]
 exact wu64 (by omega) (by simp at hlt; omega)
theorem shr64 (m s : Nat) (hs : s ≤ 64) : shrI .u64 (m : Int) (s : Int) = ((m >>> s : Nat) : Int) := by
 simp only [shrI, IntKind.bits, Int.toNat_natCast, Nat.min_eq_left hs, Nat.shiftRight_eq_div_pow]
 rw [Int.fdiv_eq_ediv_of_nonneg _ (by have : (0:Int) < 2 ^ s := Int.pow_pos (by omega); omega)]
 simp

def BT (a : Nat → Int) (i : Nat) : Bool := (a (i / 64)).toNat.testBit (i % 64)
def WF (a : Nat → Int) : Prop := ∀ j, j < 4 → 0 ≤ a j ∧ a j < 18446744073709551616
def Is (a : Nat → Int) (f : Nat → Bool) : Prop := WF a ∧ ∀ i, i < 256 → BT a i = f i
def nf (a : Nat → Int) (j : Nat) : Nat := (a j).toNat
theorem WF.nat {a : Nat → Int} (h : WF a) {j : Nat} (hj : j < 4) : a j = (nf a j : Int) ∧ nf a j < 18446744073709551616 := by
 have := h j hj; unfold nf; omega
theorem Is.self {a : Nat → Int} (h : WF a) : Is a (BT a) := ⟨h, fun _ _ => rfl⟩
theorem testBit_and1 (m s : Nat) : (m >>> s &&& 1 = 1) ↔ m.testBit s = true := by
 simp [Nat.testBit, Nat.and_comm]

theorem F57_spec {a : Nat → Int} {f : Nat → Bool} (h : Is a f) {b : Nat} (hb : b < 256) : F57 a (b : Int) = some (f b) := by
 obtain ⟨n1, n2⟩ := h.1.nat (j := b / 64) (by omega)
 obtain ⟨e1, e2, _⟩ := byteNums b hb
 unfold F57
 rw [e1, e2, req_pos (by unfold arrOk; omega), req_pos (by omega), Int.toNat_natCast, n1, shr64 _ _ (by omega)]
 have hlt : nf a (b / 64) >>> (b % 64) < 18446744073709551616 := Nat.lt_of_le_of_lt (Nat.shiftRight_le _ _) n2
 have e3 : bitsI .and .u64 ((nf a (b / 64) >>> (b % 64) : Nat) : Int) 1 = ((nf a (b / 64) >>> (b % 64) &&& 1 : Nat) : Int) := and64 _ 1 hlt (by omega)
 rw [e3, ← h.2 b hb]
 congr 1
 unfold BT
 have := testBit_and1 (nf a (b / 64)) (b % 64)
 unfold nf at this ⊢
 cases hc : (a (b / 64)).toNat.testBit (b % 64)
 ·rw [hc] at this
  simp only [Bool.false_eq_true, iff_false] at this
  simp only [beq_eq_false_iff_ne, ne_eq]
  omega
 ·rw [hc] at this
  have := this.2 rfl
  rw [this]; rfl
theorem F67_spec {a : Nat → Int} {f : Nat → Bool} (h : Is a f) {b : Nat} (hb : b < 256) : F67 a (b : Int) = some (f b) := by
 obtain ⟨n1, n2⟩ := h.1.nat (j := b / 64) (by omega)
 obtain ⟨_, _, e1, e2, _⟩ := byteNums b hb
 unfold F67
 rw [e1, e2, req_pos (by unfold arrOk; omega), req_pos (by omega), Int.toNat_natCast, n1, shr64 _ _ (by omega)]
 rw [← h.2 b hb]
 congr 1
 unfold BT
 have := testBit_and1 (nf a (b / 64)) (b % 64)
 rw [Nat.and_one_is_mod] at this
 have e3 : Int.tmod ((nf a (b / 64) >>> (b % 64) : Nat) : Int) 2 = ((nf a (b / 64) >>> (b % 64) % 2 : Nat) : Int) := by rw [Int.tmod_eq_emod_of_nonneg (Int.natCast_nonneg _)]; omega
 rw [e3]
 unfold nf at this ⊢
 cases hc : (a (b / 64)).toNat.testBit (b % 64)
 ·rw [hc] at this
  simp only [Bool.false_eq_true, iff_false] at this
  simp only [beq_eq_false_iff_ne, ne_eq]
  omega
 ·rw [hc] at this
  have := this.2 rfl
  rw [this]; rfl
def cs (w : List Nat) : List Int := w.map fun (x : Nat) => (x : Int)
def Bn (w : List Nat) : Prop := ∀ x ∈ w, x < 256
theorem cs_len (w : List Nat) : (cs w).length = w.length := by simp [cs]
theorem cs_at {w : List Nat} {i : Nat} (h : i < w.length) : at? (cs w) (i : Int) = some ((w.getD i 0 : Nat) : Int) := by
 rw [at_nat]; simp [cs, List.getElem?_eq_getElem h, List.getD_eq_getElem?_getD]
theorem Bn.getD {w : List Nat} (h : Bn w) (i : Nat) : w.getD i 0 < 256 := by
 rw [List.getD_eq_getElem?_getD]
 cases e : w[i]? with
 | none => simp
 | some x => exact h x (List.mem_of_getElem? e)

def preT (p : Nat) (L : SP) : SP := fun a b => decide (a < p) && L a b
theorem pre_put {n p c : Nat} {L : SP} (h : ∀ b, b ≤ n → b ≠ c → L p b = false) : ∀ a b, a ≤ n → b ≤ n → put (preT p L) p c (L p c) a b = preT (p + 1) L a b := by
 intro a b _ hb
 simp only [put, preT]
 by_cases e : a = p
 ·subst e
  by_cases e2 : b = c
  ·subst e2; simp
  ·simp [e2, h b hb e2]
 ·have : (a < p + 1) = (a < p) := by apply propext; omega
  simp [e, this]
theorem pre_skip {n p : Nat} {L : SP} (h : ∀ b, b ≤ n → L p b = false) : ∀ a b, a ≤ n → b ≤ n → preT p L a b = preT (p + 1) L a b := by
 intro a b _ hb
 simp only [preT]
 by_cases e : a = p
 ·subst e; simp [h b hb]
 ·have : (a < p + 1) = (a < p) := by apply propext; omega
  simp [this]
theorem pre_zero (L : SP) : preT 0 L = fun _ _ => false := by funext a b; simp [preT]
theorem pre_end {n p : Nat} {L : SP} (hp : n < p) : ∀ a b, a ≤ n → preT p L a b = L a b := by
 intro a b ha
 simp only [preT]
 rw [decide_eq_true (by omega)]; simp

def diagS (h : Nat → Bool) : SP := fun a b => decide (a = b) && h a
theorem diag_off {h : Nat → Bool} {n p : Nat} : ∀ b, b ≤ n → b ≠ p → diagS h p b = false := by
 intro b _ hb
 simp only [diagS]
 rw [decide_eq_false (fun e => hb e.symm)]; rfl
theorem diag_on {h : Nat → Bool} {p : Nat} : diagS h p p = h p := by simp [diagS]
abbrev idS : SP := diagS fun _ => true
theorem diag_step (n p : Nat) (H : Nat → Bool) : tb n (put (preT p (diagS H)) p p (H p)) = tb n (preT (p + 1) (diagS H)) := by
 have := tb_ext (pre_put (n := n) (L := diagS H) (p := p) (c := p) diag_off)
 rwa [show diagS H p p = H p from diag_on] at this
theorem id_step (n p : Nat) : tb n (put (preT p idS) p p true) = tb n (preT (p + 1) idS) := diag_step n p fun _ => true
def begH (multi : Bool) (w : List Nat) (i : Nat) : Bool := decide (i = 0) || (multi && decide (w.getD (i - 1) 0 = 10))
def endH (multi : Bool) (w : List Nat) (i : Nat) : Bool := decide (i = w.length) || (multi && decide (w.getD i 0 = 10))
theorem F59_spec (multi : Bool) (w : List Nat) (p : Nat) (hp : p ≤ w.length) (hw : w.length ≤ 1000) : F59 (S53.mk (cs w) multi) (p : Int) = some (begH multi w p) := by
 unfold F59 begH
 by_cases h : p = 0
 ·subst h; rfl
 ·rw [show ((p : Int) == 0) = false by simp; omega, br_false, decide_eq_false h]
  cases multi
  ·rfl
  ·rw [br_true, show IntKind.i64.wrap ((p : Int) - 1) = ((p - 1 : Nat) : Int) by rw [w64 (by omega) (by omega)]; omega, cs_at (by omega), bnd_some']
   simp only [Bool.false_or, Bool.true_and]
   congr 1
   rw [Bool.eq_iff_iff]; simp; omega
theorem F60_spec (multi : Bool) (w : List Nat) (p : Nat) (hp : p ≤ w.length) (hw : w.length ≤ 1000) : F60 (S53.mk (cs w) multi) (p : Int) = some (endH multi w p) := by
 unfold F60 endH
 simp only [cs_len]
 by_cases h : p = w.length
 ·subst h; simp [br]
 ·rw [show ((p : Int) == (w.length : Int)) = false by simp; omega, br_false, decide_eq_false h]
  cases multi
  ·rfl
  ·rw [br_true, cs_at (by omega), bnd_some']
   simp only [Bool.false_or, Bool.true_and]
   congr 1
   rw [Bool.eq_iff_iff]; simp; omega

theorem F58s71_1_spec (k n : Nat)   (hn : n ≤ 1000) : ∀ (m p : Nat), p ≤ n + 1 → n + 1 - p < m →
  F58s71_1 k  ((n + 1 : Nat) : Int) m (tb n (preT p (diagS (fun _ => true)))) (p : Int) = some (tb n (diagS (fun _ => true)))
 | 0, p, hp, h => by omega
 | m + 1, p, hp, h => by
  rw [F58s71_1]
  by_cases hlt : p ≤ n
  ·rw [decide_eq_true (by omega : (p : Int) < ((n + 1 : Nat) : Int)), br_true, tb_at _ hlt, bnd_some', show F71 (p : Int) = some true from rfl, bnd_some', row_at _ hlt, bnd_some']
   simp only [Int.toNat_natCast, tb_put, step1 p (by omega : p < 4611686018427387904)]
   rw [show tb n (put (preT p (diagS (fun _ => true))) p p true) = tb n (preT (p + 1) (diagS (fun _ => true))) from id_step n p]
   exact F58s71_1_spec k n   hn m (p + 1) (by omega) (by omega)
  ·rw [decide_eq_false (by omega : ¬ (p : Int) < ((n + 1 : Nat) : Int)), br_false]
   congr 1
   exact tb_ext fun a b ha _ => pre_end (by omega) a b ha
theorem F58s71_spec {k n : Nat}   (hn : n ≤ 1000) (hk : n + 1 < k) : F58s71 k (n : Int)  = some (tb n (diagS (fun _ => true))) := by
 unfold F58s71
 rw [F37_spec hn hk, bnd_some']
 have := F58s71_1_spec k n   hn k 0 (by omega) (by omega)
 rw [show ((0 : Nat) : Int) = 0 from rfl, pre_zero] at this
 rw [tb_len, this]; rfl

theorem F58s64_1_spec (k n : Nat)   (hn : n ≤ 1000) : ∀ (m p : Nat), p ≤ n + 1 → n + 1 - p < m →
  F58s64_1 k  ((n + 1 : Nat) : Int) m (tb n (preT p (diagS (fun _ => true)))) (p : Int) = some (tb n (diagS (fun _ => true)))
 | 0, p, hp, h => by omega
 | m + 1, p, hp, h => by
  rw [F58s64_1]
  by_cases hlt : p ≤ n
  ·rw [decide_eq_true (by omega : (p : Int) < ((n + 1 : Nat) : Int)), br_true, tb_at _ hlt, bnd_some', show F64 (p : Int) = some true from rfl, bnd_some', row_at _ hlt, bnd_some']
   simp only [Int.toNat_natCast, tb_put, step1 p (by omega : p < 4611686018427387904)]
   rw [show tb n (put (preT p (diagS (fun _ => true))) p p true) = tb n (preT (p + 1) (diagS (fun _ => true))) from id_step n p]
   exact F58s64_1_spec k n   hn m (p + 1) (by omega) (by omega)
  ·rw [decide_eq_false (by omega : ¬ (p : Int) < ((n + 1 : Nat) : Int)), br_false]
   congr 1
   exact tb_ext fun a b ha _ => pre_end (by omega) a b ha
theorem F58s64_spec {k n : Nat}   (hn : n ≤ 1000) (hk : n + 1 < k) : F58s64 k (n : Int)  = some (tb n (diagS (fun _ => true))) := by
 unfold F58s64
 rw [F37_spec hn hk, bnd_some']
 have := F58s64_1_spec k n   hn k 0 (by omega) (by omega)
 rw [show ((0 : Nat) : Int) = 0 from rfl, pre_zero] at this
 rw [tb_len, this]; rfl

theorem F58s59_1_spec (k n : Nat) (multi : Bool) (w : List Nat) (hw : w.length = n) (hn : n ≤ 1000) : ∀ (m p : Nat), p ≤ n + 1 → n + 1 - p < m →
  F58s59_1 k (S53.mk (cs w) multi) ((n + 1 : Nat) : Int) m (tb n (preT p (diagS (begH multi w)))) (p : Int) = some (tb n (diagS (begH multi w)))
 | 0, p, hp, h => by omega
 | m + 1, p, hp, h => by
  rw [F58s59_1]
  by_cases hlt : p ≤ n
  ·rw [decide_eq_true (by omega : (p : Int) < ((n + 1 : Nat) : Int)), br_true, tb_at _ hlt, bnd_some', F59_spec multi w p (by omega) (by omega), bnd_some', row_at _ hlt, bnd_some']
   simp only [Int.toNat_natCast, tb_put, step1 p (by omega : p < 4611686018427387904)]
   rw [show tb n (put (preT p (diagS (begH multi w))) p p (begH multi w p)) = tb n (preT (p + 1) (diagS (begH multi w))) from diag_step n p _]
   exact F58s59_1_spec k n multi w hw hn m (p + 1) (by omega) (by omega)
  ·rw [decide_eq_false (by omega : ¬ (p : Int) < ((n + 1 : Nat) : Int)), br_false]
   congr 1
   exact tb_ext fun a b ha _ => pre_end (by omega) a b ha
theorem F58s59_spec {k n : Nat} (multi : Bool) (w : List Nat) (hw : w.length = n) (hn : n ≤ 1000) (hk : n + 1 < k) : F58s59 k (n : Int) (S53.mk (cs w) multi) = some (tb n (diagS (begH multi w))) := by
 unfold F58s59
 rw [F37_spec hn hk, bnd_some']
 have := F58s59_1_spec k n multi w hw hn k 0 (by omega) (by omega)
 rw [show ((0 : Nat) : Int) = 0 from rfl, pre_zero] at this
 rw [tb_len, this]; rfl

theorem F58s60_1_spec (k n : Nat) (multi : Bool) (w : List Nat) (hw : w.length = n) (hn : n ≤ 1000) : ∀ (m p : Nat), p ≤ n + 1 → n + 1 - p < m →
  F58s60_1 k (S53.mk (cs w) multi) ((n + 1 : Nat) : Int) m (tb n (preT p (diagS (endH multi w)))) (p : Int) = some (tb n (diagS (endH multi w)))
 | 0, p, hp, h => by omega
 | m + 1, p, hp, h => by
  rw [F58s60_1]
  by_cases hlt : p ≤ n
  ·rw [decide_eq_true (by omega : (p : Int) < ((n + 1 : Nat) : Int)), br_true, tb_at _ hlt, bnd_some', F60_spec multi w p (by omega) (by omega), bnd_some', row_at _ hlt, bnd_some']
   simp only [Int.toNat_natCast, tb_put, step1 p (by omega : p < 4611686018427387904)]
   rw [show tb n (put (preT p (diagS (endH multi w))) p p (endH multi w p)) = tb n (preT (p + 1) (diagS (endH multi w))) from diag_step n p _]
   exact F58s60_1_spec k n multi w hw hn m (p + 1) (by omega) (by omega)
  ·rw [decide_eq_false (by omega : ¬ (p : Int) < ((n + 1 : Nat) : Int)), br_false]
   congr 1
   exact tb_ext fun a b ha _ => pre_end (by omega) a b ha
theorem F58s60_spec {k n : Nat} (multi : Bool) (w : List Nat) (hw : w.length = n) (hn : n ≤ 1000) (hk : n + 1 < k) : F58s60 k (n : Int) (S53.mk (cs w) multi) = some (tb n (diagS (endH multi w))) := by
 unfold F58s60
 rw [F37_spec hn hk, bnd_some']
 have := F58s60_1_spec k n multi w hw hn k 0 (by omega) (by omega)
 rw [show ((0 : Nat) : Int) = 0 from rfl, pre_zero] at this
 rw [tb_len, this]; rfl

theorem F65_1_spec (k n : Nat) (hn : n ≤ 1000) : ∀ (m p : Nat), p ≤ n + 1 → n + 1 - p < m →
  F65_1 k (n : Int) m (tb n (preT p idS)) (p : Int) = some (tb n idS)
 | 0, p, hp, h => by omega
 | m + 1, p, hp, h => by
  rw [F65_1]
  by_cases hlt : p ≤ n
  ·rw [decide_eq_true (by omega : (p : Int) ≤ (n : Int)), br_true, tb_at _ hlt, bnd_some', row_at _ hlt, bnd_some']
   simp only [Int.toNat_natCast, tb_put, step1 p (by omega : p < 4611686018427387904)]
   rw [id_step]
   exact F65_1_spec k n hn m (p + 1) (by omega) (by omega)
  ·rw [decide_eq_false (by omega : ¬ (p : Int) ≤ (n : Int)), br_false]
   congr 1
   exact tb_ext fun a b ha _ => pre_end (by omega) a b ha
theorem F65_spec {k n : Nat} (hn : n ≤ 1000) (hk : n + 1 < k) : F65 k (n : Int) = some (tb n idS) := by
 unfold F65
 rw [F39_spec hn hk, bnd_some']
 have := F65_1_spec k n hn k 0 (by omega) (by omega)
 rw [show ((0 : Nat) : Int) = 0 from rfl, pre_zero] at this
 rw [this]; rfl

def letS (c : Nat → Int) (w : List Nat) : SP := fun a b => decide (b = a + 1) && decide (a < w.length) && BT c (w.getD a 0)
theorem let_off {c : Nat → Int} {w : List Nat} {n p : Nat} : ∀ b, b ≤ n → b ≠ p + 1 → letS c w p b = false := by
 intro b _ hb
 simp only [letS]
 rw [decide_eq_false hb]; rfl
theorem let_on {c : Nat → Int} {w : List Nat} {p : Nat} (h : p < w.length) : letS c w p (p + 1) = BT c (w.getD p 0) := by simp [letS, h]
theorem let_last {c : Nat → Int} {w : List Nat} {p b : Nat} (h : w.length ≤ p) : letS c w p b = false := by
 simp only [letS]
 rw [decide_eq_false (p := p < w.length) (by omega)]; simp
theorem F38_1_spec (k : Nat) (c : Nat → Int) (hc : WF c) (w : List Nat) (hB : Bn w) (hw : w.length ≤ 1000) (o0 : List Int) (o1 : Bool) (a0 a1 a2 a3 a4 : Int) (a5 : Bool) : ∀ (m p : Nat), p ≤ w.length → w.length - p < m →
  F38_1 k (cs w) (w.length : Int) o0 o1 a0 c a1 a2 a3 a4 a5 m (tb w.length (preT p (letS c w))) (p : Int) = some (tb w.length (letS c w))
 | 0, p, hp, h => by omega
 | m + 1, p, hp, h => by
  rw [F38_1]
  by_cases hlt : p < w.length
  ·rw [decide_eq_true (by omega : (p : Int) < (w.length : Int)), br_true, cs_at hlt, bnd_some', tb_at _ (by omega), bnd_some', F57_spec (Is.self hc) (hB.getD p), bnd_some', step1 p (by omega), row_at _ (by omega), bnd_some']
   simp only [Int.toNat_natCast, tb_put]
   rw [← let_on hlt, tb_ext (pre_put (n := w.length) (L := letS c w) let_off)]
   exact F38_1_spec k c hc w hB hw o0 o1 a0 a1 a2 a3 a4 a5 m (p + 1) (by omega) (by omega)
  ·rw [decide_eq_false (by omega : ¬ (p : Int) < (w.length : Int)), br_false]
   obtain rfl : p = w.length := by omega
   congr 1
   refine tb_ext fun a b ha _ => ?_
   by_cases e : a < w.length
   ·simp [preT, e]
   ·rw [let_last (by omega)]; simp [preT, let_last (show w.length ≤ a by omega)]

def leafS (kind : Int) (c : Nat → Int) (multi : Bool) (w : List Nat) : SP :=
 if kind = 1 then idS else if kind = 2 then letS c w else if kind = 6 then diagS (begH multi w) else if kind = 7 then diagS (endH multi w) else fun _ _ => false
theorem F43_1_spec (k : Nat) (kind : Int) (c : Nat → Int) (hc : WF c) (multi : Bool) (w : List Nat) (hB : Bn w) (hw : w.length ≤ 1000) (a1 a2 a3 a4 : Int) (a5 : Bool) : ∀ (m p : Nat), p ≤ w.length + 1 → w.length + 1 - p < m →
  F43_1 k multi (cs w) kind c a1 a2 a3 a4 a5 m (tb w.length (preT p (leafS kind c multi w))) (p : Int) = some (tb w.length (leafS kind c multi w))
 | 0, p, hp, h => by omega
 | m + 1, p, hp, h => by
  have ih := F43_1_spec k kind c hc multi w hB hw a1 a2 a3 a4 a5 m (p + 1)
  rw [F43_1]
  simp only [cs_len]
  by_cases hlt : p ≤ w.length
  ·have ih := ih (by omega) (by omega)
   rw [decide_eq_true (by omega : (p : Int) ≤ (w.length : Int)), br_true]
   simp only [step1 p (by omega : p < 4611686018427387904), tb_at _ hlt, bnd_some', row_at _ hlt, Int.toNat_natCast, tb_put]
   by_cases k1 : kind = 1
   ·have e : leafS kind c multi w = idS := by simp [leafS, k1]
    rw [e] at ih ⊢
    rw [show (kind == 1) = true by simp [k1], br_true]
    rw [id_step]; exact ih
   rw [show (kind == 1) = false by simp [k1], br_false]
   by_cases k2 : kind = 2
   ·have e : leafS kind c multi w = letS c w := by simp [leafS, k2]
    rw [e] at ih ⊢
    rw [show (kind == 2) = true by simp [k2], br_true]
    by_cases hl : p < w.length
    ·rw [decide_eq_true (by omega : (p : Int) < (w.length : Int)), br_true, cs_at hl, bnd_some', F67_spec (Is.self hc) (hB.getD p), bnd_some']
     have e := tb_ext (pre_put (n := w.length) (L := letS c w) (p := p) let_off)
     rw [let_on hl] at e
     cases hb : BT c (w.getD p 0)
     ·rw [br_false, tb_ext (pre_skip (n := w.length) (L := letS c w) fun b h => ?_)]
      ·exact ih
      ·by_cases e : b = p + 1
       ·subst e; rw [let_on hl, hb]
       ·exact let_off (n := b) b (Nat.le_refl _) e
     ·rw [br_true, row_at _ (by omega), bnd_some']
      rw [hb] at e
      rw [e]; exact ih
    ·rw [decide_eq_false (by omega : ¬ (p : Int) < (w.length : Int)), br_false, tb_ext (pre_skip (n := w.length) (L := letS c w) fun b h => let_last (by omega))]
     exact ih
   rw [show (kind == 2) = false by simp [k2], br_false]
   by_cases k6 : kind = 6
   ·have e : leafS kind c multi w = diagS (begH multi w) := by simp [leafS, k6]
    rw [e] at ih ⊢
    rw [show (kind == 6) = true by simp [k6], br_true]
    have e := diag_step w.length p (begH multi w)
    by_cases h0 : p = 0
    ·subst h0
     rw [show (((0 : Nat) : Int) == 0) = true from rfl, br_true]
     rw [show begH multi w 0 = true by simp [begH]] at e
     rw [e]; exact ih
    ·rw [show ((p : Int) == 0) = false by simp; omega, br_false]
     cases multi
     ·rw [br_false]
      rw [show begH false w p = false by simp [begH, h0]] at e
      rw [e]; exact ih
     ·rw [br_true, show IntKind.i64.wrap ((p : Int) - 1) = ((p - 1 : Nat) : Int) by rw [w64 (by omega) (by omega)]; omega, cs_at (by omega), bnd_some']
      rw [show begH true w p = (((w.getD (p - 1) 0 : Nat) : Int) == 10) by simp only [begH, h0, decide_false, Bool.false_or, Bool.true_and]; rw [Bool.eq_iff_iff]; simp; omega] at e
      rw [e]; exact ih
   rw [show (kind == 6) = false by simp [k6], br_false]
   by_cases k7 : kind = 7
   ·have e : leafS kind c multi w = diagS (endH multi w) := by simp [leafS, k7]
    rw [e] at ih ⊢
    rw [show (kind == 7) = true by simp [k7], br_true]
    have e := diag_step w.length p (endH multi w)
    by_cases h0 : p = w.length
    ·rw [show ((p : Int) == (w.length : Int)) = true by simp [h0], br_true]
     rw [show endH multi w p = true by simp [endH, h0]] at e
     rw [e]; exact ih
    ·rw [show ((p : Int) == (w.length : Int)) = false by simp; omega, br_false]
     cases multi
     ·rw [br_false]
      rw [show endH false w p = false by simp [endH, h0]] at e
      rw [e]; exact ih
     ·rw [br_true, cs_at (by omega), bnd_some']
      rw [show endH true w p = (((w.getD p 0 : Nat) : Int) == 10) by simp only [endH, h0, decide_false, Bool.false_or, Bool.true_and]; rw [Bool.eq_iff_iff]; simp; omega] at e
      rw [e]; exact ih
   rw [show (kind == 7) = false by simp [k7], br_false]
   have e : leafS kind c multi w = fun _ _ => false := by simp [leafS, k1, k2, k6, k7]
   rw [e] at ih ⊢
   rw [tb_ext (pre_skip (n := w.length) (L := fun _ _ => false) fun b h => rfl)]
   exact ih
  ·rw [decide_eq_false (by omega : ¬ (p : Int) ≤ (w.length : Int)), br_false]
   congr 1
   exact tb_ext fun a b ha _ => pre_end (by omega) a b ha
theorem F43_spec {k : Nat} (nd : S59) (hc : WF nd.Class) (multi : Bool) (w : List Nat) (hB : Bn w) (hw : w.length ≤ 1000) (hk : w.length + 1 < k) : F43 k nd multi (cs w) = some (tb w.length (leafS nd.Kind nd.Class multi w)) := by
 unfold F43
 rw [cs_len, F39_spec hw hk, bnd_some']
 have := F43_1_spec k nd.Kind nd.Class hc multi w hB hw nd.A nd.B nd.Least nd.Most nd.Lazy k 0 (by omega) (by omega)
 rw [show ((0 : Nat) : Int) = 0 from rfl, pre_zero] at this
 rw [this]; rfl

def powB (n : Nat) : Nat → SP → Nat → SP → SP
 | 0, _, _, acc => acc
 | j + 1, f, m, acc => if m = 0 then acc else powB n j (seqS n f f) (m / 2) (if m % 2 = 1 then seqS n acc f else acc)
theorem and1 (m : Nat) (h : m < 1000000) : bitsI .and .i64 (m : Int) 1 = ((m % 2 : Nat) : Int) := by
 have hlt : m &&& 1 < 2 ^ 64 := Nat.and_lt_two_pow _ (by omega)
 show IntKind.i64.wrap (((BitVec.ofInt 64 (m : Int) &&& BitVec.ofInt 64 ((1 : Nat) : Int)).toNat : Nat) : Int) = _
 simp only [BitVec.ofInt_natCast, BitVec.toNat_and, BitVec.toNat_ofNat]
 rw [Nat.mod_eq_of_lt (by omega), Nat.mod_eq_of_lt (by omega), Nat.and_one_is_mod]
 exact w64 (by omega) (by omega)
theorem shr1 (m : Nat) (h : m < 1000000) : shrI .i64 (m : Int) 1 = ((m / 2 : Nat) : Int) := by
 simp only [shrI, IntKind.bits]
 rw [Int.fdiv_eq_ediv_of_nonneg _ (by simp)]
 simp
theorem F63_1_spec (k n : Nat) (hn : n ≤ 1000) (hk : n + 1 < k) : ∀ (j m : Nat) (f acc : SP), m < 2 ^ j → m < 1000000 → F63_1 k (j + 1) (tb n f) (m : Int) (tb n acc) = some (tb n (powB n j f m acc))
 | 0, m, f, acc, h, h2 => by
  obtain rfl : m = 0 := by simpa using h
  rw [F63_1]; simp [br, powB]
 | j + 1, m, f, acc, h, h2 => by
  rw [F63_1]
  by_cases h0 : m = 0
  ·subst h0; simp [br, powB]
  ·have hj : m / 2 < 2 ^ j := by rw [Nat.pow_succ] at h; omega
   rw [decide_eq_true (by omega : (m : Int) > 0), br_true, and1 m h2, shr1 m h2, F61_spec f f hn hk, powB, if_neg h0]
   by_cases h1 : m % 2 = 1
   ·rw [show (((m % 2 : Nat) : Int) == 1) = true by simp [h1], br_true, F61_spec acc f hn hk, bnd_some', bnd_some', if_pos h1]
    exact F63_1_spec k n hn hk j (m / 2) _ _ hj (by omega)
   ·rw [show (((m % 2 : Nat) : Int) == 1) = false by simp; omega, br_false, bnd_some', if_neg h1]
    exact F63_1_spec k n hn hk j (m / 2) _ _ hj (by omega)
theorem F66_1_spec (k n : Nat) (hn : n ≤ 1000) (hk : n + 1 < k) : ∀ (j m : Nat) (f acc : SP), m < 2 ^ j → m < 1000000 → F66_1 k (j + 1) (tb n f) (m : Int) (tb n acc) = some (tb n (powB n j f m acc))
 | 0, m, f, acc, h, h2 => by
  obtain rfl : m = 0 := by simpa using h
  rw [F66_1]; simp [br, powB]
 | j + 1, m, f, acc, h, h2 => by
  rw [F66_1]
  by_cases h0 : m = 0
  ·subst h0; simp [br, powB]
  ·have hj : m / 2 < 2 ^ j := by rw [Nat.pow_succ] at h; omega
   have e1 : Int.tmod (m : Int) 2 = ((m % 2 : Nat) : Int) := by rw [Int.tmod_eq_emod_of_nonneg (by omega)]; omega
   have e2 : IntKind.i64.wrap (Int.tdiv (m : Int) 2) = ((m / 2 : Nat) : Int) := by rw [Int.tdiv_eq_ediv_of_nonneg (by omega), w64 (by omega) (by omega)]; omega
   rw [decide_eq_true (by omega : (m : Int) > 0), br_true, e1, e2, F40_spec f f hn hk, powB, if_neg h0]
   by_cases h1 : m % 2 = 1
   ·rw [show (((m % 2 : Nat) : Int) == 1) = true by simp [h1], br_true, F40_spec acc f hn hk, bnd_some', bnd_some', if_pos h1]
    exact F66_1_spec k n hn hk j (m / 2) _ _ hj (by omega)
   ·rw [show (((m % 2 : Nat) : Int) == 1) = false by simp; omega, br_false, bnd_some', if_neg h1]
    exact F66_1_spec k n hn hk j (m / 2) _ _ hj (by omega)
def powS (n k : Nat) (f : SP) (m : Nat) : SP := powB n (k - 1) f m idS
theorem two20 {k : Nat} (hk : 1010 < k) : 1000000 ≤ 2 ^ (k - 1) := Nat.le_trans (by decide : 1000000 ≤ 2 ^ 20) (Nat.pow_le_pow_right (by decide) (by omega))
theorem F63_spec {k n : Nat} (f : SP) (m : Nat) (hn : n ≤ 1000) (hk : 1010 < k) (hm : m < 1000000) : F63 k (tb n f) (m : Int) = some (tb n (powS n k f m)) := by
 unfold F63 powS
 rw [tb_lenm n f (by omega), F58s71_spec hn (by omega), bnd_some']
 have := F63_1_spec k n hn (by omega) (k - 1) m f idS (Nat.lt_of_lt_of_le hm (two20 hk)) hm
 rw [show k - 1 + 1 = k by omega] at this
 rw [this]; rfl
theorem F66_spec {k n : Nat} (f : SP) (m : Nat) (hn : n ≤ 1000) (hk : 1010 < k) (hm : m < 1000000) : F66 k (tb n f) (m : Int) = some (tb n (powS n k f m)) := by
 unfold F66 powS
 rw [tb_lenm n f (by omega), F65_spec hn (by omega), bnd_some']
 have := F66_1_spec k n hn (by omega) (k - 1) m f idS (Nat.lt_of_lt_of_le hm (two20 hk)) hm
 rw [show k - 1 + 1 = k by omega] at this
 rw [this]; rfl
theorem pow_zero (n k : Nat) (f : SP) : powS n k f 0 = idS := by
 unfold powS
 cases k - 1 <;> simp [powB]
def zeroC (c : Nat → Int) : Bool := (List.range 4).all fun j => c j == 0
def good (nd : S59) : Bool :=
 decide (1 ≤ nd.Kind) && decide (nd.Kind ≤ 7) && (nd.Kind == 2 || zeroC nd.Class) && (nd.A == 0 || nd.Kind == 3 || nd.Kind == 4 || nd.Kind == 5) && (nd.B == 0 || nd.Kind == 3 || nd.Kind == 4) &&
 (nd.Kind == 5 || (nd.Least == 0 && nd.Most == 0 && nd.Lazy == false)) &&
 (nd.Kind != 5 || (decide (0 ≤ nd.Least) && decide (nd.Least ≤ 1000) && (nd.Most == -1 || (decide (nd.Least ≤ nd.Most) && decide (nd.Most ≤ 1000)))))
def partsI (K : Int) : Int := if K = 1 ∨ K = 2 ∨ K = 6 ∨ K = 7 then 0 else if K = 5 then 1 else if K = 3 ∨ K = 4 then 2 else -1
theorem F74_spec (k : Nat) (K : Int) : F74 k K = some (partsI K) := by
 unfold partsI
 by_cases h1 : K = 1
 ·subst h1; rfl
 by_cases h2 : K = 2
 ·subst h2; rfl
 by_cases h3 : K = 3
 ·subst h3; rfl
 by_cases h4 : K = 4
 ·subst h4; rfl
 by_cases h5 : K = 5
 ·subst h5; rfl
 by_cases h6 : K = 6
 ·subst h6; rfl
 by_cases h7 : K = 7
 ·subst h7; rfl
 ·simp [F74, F74_1, F74_2, F74_3, br, bnd, h1, h2, h3, h4, h5, h6, h7, show (K == 1) = false by simpa using h1, show (K == 2) = false by simpa using h2, show (K == 3) = false by simpa using h3, show (K == 4) = false by simpa using h4,
   show (K == 5) = false by simpa using h5, show (K == 6) = false by simpa using h6, show (K == 7) = false by simpa using h7]
theorem kinds {K : Int} (h : 1 ≤ K) (h' : K ≤ 7) : K = 1 ∨ K = 2 ∨ K = 3 ∨ K = 4 ∨ K = 5 ∨ K = 6 ∨ K = 7 := by omega
theorem F73_spec (k : Nat) (nd : S59) : F73 k nd = some (good nd) := by
 obtain ⟨K, C, A, B, l, m, z⟩ := nd
 by_cases hk : 1 ≤ K ∧ K ≤ 7
 ·rcases kinds hk.1 hk.2 with rfl | rfl | rfl | rfl | rfl | rfl | rfl
  ·simp [F73, F73_1, F73_2, F74_spec, partsI, br, bnd, alt, good, zeroC]
   rw [Bool.eq_iff_iff]; simp; grind
  ·simp [F73, F73_1, F73_2, F74_spec, partsI, br, bnd, alt, good, zeroC]
   rw [Bool.eq_iff_iff]; simp; grind
  ·simp [F73, F73_1, F73_2, F74_spec, partsI, br, bnd, alt, good, zeroC]
   rw [Bool.eq_iff_iff]; simp; grind
  ·simp [F73, F73_1, F73_2, F74_spec, partsI, br, bnd, alt, good, zeroC]
   rw [Bool.eq_iff_iff]; simp; grind
  ·by_cases h1 : l < 0
   ·simp [F73, F73_1, F73_2, br, bnd, alt, good, h1, show ¬ 0 ≤ l by omega]
   by_cases h2 : l > 1000
   ·simp [F73, F73_1, F73_2, br, bnd, alt, good, h1, h2, show ¬ l ≤ 1000 by omega]
   by_cases h3 : m = -1
   ·subst h3
    simp [F73, F73_1, F73_2, F74_spec, partsI, br, bnd, alt, good, zeroC, h1, h2, show l ≤ 1000 by omega, show 0 ≤ l by omega]
   by_cases h4 : m < l
   ·simp [F73, F73_1, F73_2, br, bnd, alt, good, h1, h2, h3, show (m != -1) = true by simpa using h3, h4, show ¬ l ≤ m by omega]
   by_cases h5 : m > 1000
   ·simp [F73, F73_1, F73_2, br, bnd, alt, good, h1, h2, h3, show (m != -1) = true by simpa using h3, h4, h5, show ¬ m ≤ 1000 by omega]
   ·simp [F73, F73_1, F73_2, F74_spec, partsI, br, bnd, alt, good, zeroC, h1, h2, h3, show (m != -1) = true by simpa using h3, h4, h5, show l ≤ 1000 by omega, show 0 ≤ l by omega, show l ≤ m by omega, show m ≤ 1000 by omega]
  ·simp [F73, F73_1, F73_2, F74_spec, partsI, br, bnd, alt, good, zeroC]
   rw [Bool.eq_iff_iff]; simp; grind
  ·simp [F73, F73_1, F73_2, F74_spec, partsI, br, bnd, alt, good, zeroC]
   rw [Bool.eq_iff_iff]; simp; grind
 ·have hp : partsI K = -1 := by
   unfold partsI
   rw [if_neg (by omega), if_neg (by omega), if_neg (by omega)]
  have hg : good ⟨K, C, A, B, l, m, z⟩ = false := by
   by_cases h : 1 ≤ K
   ·simp [good, h, show ¬ K ≤ 7 by omega]
   ·simp [good, h]
  rw [hg]
  simp [F73, F73_1, F73_2, F74_spec, hp, br, bnd, alt, show ¬ K = 2 by omega, show ¬ K = 5 by omega, show (K == 2) = false by simp; omega, show (K == 5) = false by simp; omega]
def nodeSize (acc : List Nat) (nd : S59) : Option Nat :=
 if nd.Kind = 5 then (if 1 ≤ acc.length ∧ nd.A = (acc.length : Int) - 1 then some (1 + acc.getD (acc.length - 1) 0) else none)
 else if nd.Kind = 3 ∨ nd.Kind = 4 then
  (if 1 ≤ acc.length ∧ nd.B = (acc.length : Int) - 1 ∧ nd.A = (acc.length : Int) - 1 - ((acc.getD (acc.length - 1) 0 : Nat) : Int) ∧ 0 ≤ nd.A then some (1 + acc.getD (acc.length - 1) 0 + acc.getD nd.A.toNat 0) else none)
 else some 1
def szL : List S59 → List Nat → Option (List Nat)
 | [], acc => some acc
 | nd :: r, acc => if good nd = true then (match nodeSize acc nd with
  | some s => szL r (acc ++ [s])
  | none => none) else none
def Inv (acc : List Nat) : Prop := ∀ j, j < acc.length → 1 ≤ acc.getD j 0 ∧ acc.getD j 0 ≤ j + 1
theorem getD_app {acc : List Nat} {s j : Nat} (h : j < acc.length) : (acc ++ [s]).getD j 0 = acc.getD j 0 := by
 simp [List.getD_eq_getElem?_getD, List.getElem?_append_left h]
theorem getD_last {acc : List Nat} {s : Nat} : (acc ++ [s]).getD acc.length 0 = s := by
 simp [List.getD_eq_getElem?_getD]
theorem Inv.app {acc : List Nat} {s : Nat} (h : Inv acc) (h1 : 1 ≤ s) (h2 : s ≤ acc.length + 1) : Inv (acc ++ [s]) := by
 intro j hj
 rw [List.length_append] at hj
 simp at hj
 by_cases e : j < acc.length
 ·rw [getD_app e]; exact h j e
 ·obtain rfl : j = acc.length := by omega
  rw [getD_last]; exact ⟨h1, h2⟩
theorem nodeSize_inv {acc : List Nat} {nd : S59} {s : Nat} (h : Inv acc) (hs : nodeSize acc nd = some s) : 1 ≤ s ∧ s ≤ acc.length + 1 := by
 unfold nodeSize at hs
 split at hs
 ·split at hs
  ·rename_i c
   have := h (acc.length - 1) (by omega)
   cases hs; omega
  ·cases hs
 ·split at hs
  ·split at hs
   ·rename_i c
    have h1 := h (acc.length - 1) (by omega)
    have h2 := h nd.A.toNat (by omega)
    cases hs; omega
   ·cases hs
  ·cases hs; omega
def szR : Option (List Nat) → Bool ⊕ List Int
 | some L => .inr (cs L)
 | none => .inl false
theorem szL_len : ∀ {r : List S59} {acc L : List Nat}, szL r acc = some L → L.length = acc.length + r.length
 | [], acc, L, h => by simp [szL] at h; subst h; simp
 | nd :: r, acc, L, h => by
  simp only [szL] at h
  split at h
  ·split at h
   ·have := szL_len h
    rw [this, List.length_append]; simp; omega
   ·cases h
  ·cases h
def stR (acc : List Nat) (N : Nat) : List Int := cs acc ++ List.replicate (N - acc.length) 0
theorem stR_set {acc : List Nat} {N : Nat} (h : acc.length < N) (s : Nat) : (stR acc N).set acc.length (s : Int) = stR (acc ++ [s]) N := by
 unfold stR
 rw [List.set_append_right _ _ (by rw [cs_len]; exact Nat.le_refl _), cs_len, Nat.sub_self]
 obtain ⟨q, hq⟩ : ∃ q, N - acc.length = q + 1 := ⟨N - acc.length - 1, by omega⟩
 rw [hq, List.replicate_succ, List.set_cons_zero]
 have : N - (acc ++ [s]).length = q := by simp; omega
 rw [this]
 simp [cs]
theorem stR_at {acc : List Nat} {N j : Nat} (h : j < acc.length) : at? (stR acc N) (j : Int) = some ((acc.getD j 0 : Nat) : Int) := by
 rw [at_nat]
 unfold stR
 rw [List.getElem?_append_left (by rw [cs_len]; exact h), ← at_nat, cs_at h]
theorem stR_cur {acc : List Nat} {N : Nat} (h : acc.length < N) : at? (stR acc N) (acc.length : Int) = some 0 := by
 rw [at_nat]
 unfold stR
 rw [List.getElem?_append_right (by rw [cs_len]; exact Nat.le_refl _), cs_len, Nat.sub_self, List.getElem?_replicate, if_pos (by omega)]
theorem stR_set1 {acc : List Nat} {N : Nat} (h : acc.length < N) : (stR acc N).set acc.length 1 = stR (acc ++ [1]) N := stR_set h 1
theorem stR_cur1 {acc : List Nat} {N : Nat} : at? (stR (acc ++ [1]) N) (acc.length : Int) = some 1 := by
 rw [stR_at (by simp), getD_last]; rfl
theorem stR_reset {acc : List Nat} {N : Nat} (h : acc.length < N) (s : Nat) : (stR (acc ++ [1]) N).set acc.length (s : Int) = stR (acc ++ [s]) N := by
 rw [← stR_set1 h, List.set_set, stR_set h]
theorem good_kind {nd : S59} (h : good nd = true) : 1 ≤ nd.Kind ∧ nd.Kind ≤ 7 := by
 unfold good at h
 simp only [Bool.and_eq_true, decide_eq_true_eq] at h
 exact h.1.1.1.1.1
theorem wm1 (i : Nat) (h : i ≤ 1000) : IntKind.i64.wrap ((i : Int) - 1) = (i : Int) - 1 := w64 (by omega) (by omega)

theorem F70_1_spec (k : Nat) (nodes : List S59) (o : List S59) (hN : nodes.length ≤ 1000) : ∀ (r : List S59) (m : Nat) (acc : List Nat), nodes.drop acc.length = r → acc.length + r.length = nodes.length → r.length < m → Inv acc →
  F70_1 k nodes (nodes.length : Int) o m (stR acc nodes.length) (acc.length : Int) = some (szR (szL r acc))
 | [], m, acc, hd, hl, hm, hi => by
  obtain ⟨m, rfl⟩ : ∃ m', m = m' + 1 := ⟨m - 1, by simp at hm; omega⟩
  rw [F70_1, decide_eq_false (by simp at hl; omega : ¬ (acc.length : Int) < (nodes.length : Int)), br_false]
  simp only [szL, szR]
  have : nodes.length - acc.length = 0 := by simp at hl; omega
  simp [stR, this]
 | nd :: r, m, acc, hd, hl, hm, hi => by
  obtain ⟨m, rfl⟩ : ∃ m', m = m' + 1 := ⟨m - 1, by simp at hm; omega⟩
  simp only [List.length_cons] at hl hm
  have hlt : acc.length < nodes.length := by omega
  have hnd : at? nodes (acc.length : Int) = some nd := by
   rw [at_nat]
   have : (nodes.drop acc.length)[0]? = some nd := by rw [hd]; rfl
   rw [List.getElem?_drop] at this
   simpa using this
  have hd' : nodes.drop (acc.length + 1) = r := by
   have : (nodes.drop acc.length).tail = r := by rw [hd]; rfl
   rwa [List.tail_drop] at this
  have rec_ : ∀ s : Nat, 1 ≤ s → s ≤ acc.length + 1 → F70_1 k nodes (nodes.length : Int) o m (stR (acc ++ [s]) nodes.length) (IntKind.i64.wrap ((acc.length : Int) + 1)) = some (szR (szL r (acc ++ [s]))) := by
   intro s h1 h2
   rw [step1 _ (by omega)]
   have := F70_1_spec k nodes o hN r m (acc ++ [s]) (by rw [List.length_append]; exact hd') (by rw [List.length_append]; simp; omega) (by omega) (hi.app h1 h2)
   rw [List.length_append] at this
   exact this
  rw [F70_1, decide_eq_true (by omega : (acc.length : Int) < (nodes.length : Int)), br_true, hnd, bnd_some', F73_spec, bnd_some', szL]
  cases hg : good nd
  ·simp only [Bool.not_false]; rw [br_true, if_neg (by simp)]; rfl
  ·rw [if_pos rfl]
   simp only [Bool.not_true]
   rw [br_false, stR_cur hlt, bnd_some', F74_spec, bnd_some']
   simp only [Int.toNat_natCast]
   rw [stR_set1 hlt, stR_cur1, bnd_some']
   obtain ⟨g1, g2⟩ := good_kind hg
   by_cases k5 : nd.Kind = 5
   ·rw [show (partsI nd.Kind == 1) = true by simp [partsI, k5], br_true, wm1 _ (by omega)]
    unfold nodeSize
    rw [if_pos k5]
    by_cases ha : nd.A = (acc.length : Int) - 1
    ·rw [show (nd.A != (acc.length : Int) - 1) = false by simp [ha], br_false]
     by_cases h1 : 1 ≤ acc.length
     ·have hv := hi (acc.length - 1) (by omega)
      rw [decide_eq_false (by omega : ¬ (acc.length : Int) - 1 < 0), br_false, if_pos ⟨h1, ha⟩, show (acc.length : Int) - 1 = ((acc.length - 1 : Nat) : Int) by omega, stR_at (by simp; omega), getD_app (by omega), bnd_some']
      rw [show IntKind.i64.wrap (1 + ((acc.getD (acc.length - 1) 0 : Nat) : Int)) = ((1 + acc.getD (acc.length - 1) 0 : Nat) : Int) by rw [w64 (by omega) (by omega)]; omega, stR_reset hlt]
      exact rec_ _ (by omega) (by omega)
     ·rw [decide_eq_true (by omega : (acc.length : Int) - 1 < 0), br_true, if_neg (fun c => h1 c.1)]; rfl
    ·rw [show (nd.A != (acc.length : Int) - 1) = true by simp [ha], br_true, if_neg (fun c => ha c.2)]; rfl
   rw [show (partsI nd.Kind == 1) = false by unfold partsI; simp [k5]; split <;> (try split) <;> simp, br_false]
   by_cases k34 : nd.Kind = 3 ∨ nd.Kind = 4
   ·rw [show (partsI nd.Kind == 2) = true by rcases k34 with h | h <;> simp [partsI, h], br_true, wm1 _ (by omega)]
    unfold nodeSize
    rw [if_neg k5, if_pos k34]
    by_cases hb : nd.B = (acc.length : Int) - 1
    ·rw [show (nd.B != (acc.length : Int) - 1) = false by simp [hb], br_false]
     by_cases h1 : 1 ≤ acc.length
     ·have hv := hi (acc.length - 1) (by omega)
      rw [decide_eq_false (by omega : ¬ (acc.length : Int) - 1 < 0), br_false]
      rw [show at? (stR (acc ++ [1]) nodes.length) ((acc.length : Int) - 1) = some ((acc.getD (acc.length - 1) 0 : Nat) : Int) by rw [show (acc.length : Int) - 1 = ((acc.length - 1 : Nat) : Int) by omega, stR_at (by simp; omega), getD_app (by omega)], bnd_some']
      rw [show IntKind.i64.wrap ((acc.length : Int) - 1 - ((acc.getD (acc.length - 1) 0 : Nat) : Int)) = (acc.length : Int) - 1 - ((acc.getD (acc.length - 1) 0 : Nat) : Int) from w64 (by omega) (by omega)]
      by_cases ha : nd.A = (acc.length : Int) - 1 - ((acc.getD (acc.length - 1) 0 : Nat) : Int)
      ·rw [show (nd.A != (acc.length : Int) - 1 - ((acc.getD (acc.length - 1) 0 : Nat) : Int)) = false by rw [← ha]; simp, br_false]
       by_cases h0 : 0 ≤ nd.A
       ·have hw := hi nd.A.toNat (by omega)
        rw [decide_eq_false (by omega : ¬ nd.A < 0), br_false, if_pos ⟨h1, hb, ha, h0⟩]
        rw [show at? (stR (acc ++ [1]) nodes.length) nd.A = some ((acc.getD nd.A.toNat 0 : Nat) : Int) by rw [show nd.A = ((nd.A.toNat : Nat) : Int) by omega, stR_at (by simp; omega), getD_app (by omega), Int.toNat_natCast], bnd_some', bnd_some']
        rw [show IntKind.i64.wrap (((acc.getD (acc.length - 1) 0 : Nat) : Int) + ((acc.getD nd.A.toNat 0 : Nat) : Int)) = ((acc.getD (acc.length - 1) 0 + acc.getD nd.A.toNat 0 : Nat) : Int) by rw [w64 (by omega) (by omega)]; omega]
        rw [show IntKind.i64.wrap (1 + ((acc.getD (acc.length - 1) 0 + acc.getD nd.A.toNat 0 : Nat) : Int)) = ((1 + acc.getD (acc.length - 1) 0 + acc.getD nd.A.toNat 0 : Nat) : Int) by rw [w64 (by omega) (by omega)]; omega, stR_reset hlt]
        exact rec_ _ (by omega) (by omega)
       ·rw [decide_eq_true (by omega : nd.A < 0), br_true, if_neg (fun c => h0 c.2.2.2)]; rfl
      ·rw [show (nd.A != (acc.length : Int) - 1 - ((acc.getD (acc.length - 1) 0 : Nat) : Int)) = true from bne_iff_ne.2 ha, br_true, if_neg (fun c => ha c.2.2.1)]; rfl
     ·rw [decide_eq_true (by omega : (acc.length : Int) - 1 < 0), br_true, if_neg (fun c => h1 c.1)]; rfl
    ·rw [show (nd.B != (acc.length : Int) - 1) = true by simp [hb], br_true, if_neg (fun c => hb c.2.1)]; rfl
   ·rw [show (partsI nd.Kind == 2) = false by unfold partsI; simp [k5, k34]; split <;> simp, br_false]
    unfold nodeSize
    rw [if_neg k5, if_neg k34]
    exact rec_ 1 (by omega) (by omega)

theorem F72_spec (k : Nat) (nd : S59) : F72 k nd = some (
  if nd.Kind = 2 then ⟨nd.Kind, nd.Class, 0, 0, 0, 0, false⟩ else if nd.Kind = 3 ∨ nd.Kind = 4 then ⟨nd.Kind, fun _ => 0, nd.A, nd.B, 0, 0, false⟩
  else if nd.Kind = 5 then ⟨nd.Kind, fun _ => 0, nd.A, 0, nd.Least, nd.Most, nd.Lazy⟩ else ⟨nd.Kind, fun _ => 0, 0, 0, 0, 0, false⟩) := by
 obtain ⟨K, C, A, B, l, m, z⟩ := nd
 by_cases h2 : K = 2
 ·subst h2; simp [F72, br]
 by_cases h3 : K = 3
 ·subst h3; simp [F72, F72_1, br, bnd]
 by_cases h4 : K = 4
 ·subst h4; simp [F72, F72_1, br, bnd]
 by_cases h5 : K = 5
 ·subst h5; simp [F72, F72_1, br, bnd]
 ·simp [F72, F72_1, br, bnd, h2, h3, h4, h5, show (K == 2) = false by simpa using h2, show (K == 3) = false by simpa using h3, show (K == 4) = false by simpa using h4, show (K == 5) = false by simpa using h5]

theorem bare_good (nd : S59) (h : 1 ≤ nd.Kind) (h' : nd.Kind ≤ 7) (v4 : S59) (hv : v4 = (
  if nd.Kind = 2 then ⟨nd.Kind, nd.Class, 0, 0, 0, 0, false⟩ else if nd.Kind = 3 ∨ nd.Kind = 4 then ⟨nd.Kind, fun _ => 0, nd.A, nd.B, 0, 0, false⟩
  else if nd.Kind = 5 then ⟨nd.Kind, fun _ => 0, nd.A, 0, nd.Least, nd.Most, nd.Lazy⟩ else ⟨nd.Kind, fun _ => 0, 0, 0, 0, 0, false⟩)) :
  good nd = ((((nd.Kind : Int) == v4.Kind) && (((List.range 4).all fun j => (((nd.Class j) : Int) == (v4.Class j))) && (((nd.A : Int) == v4.A) && (((nd.B : Int) == v4.B) && (((nd.Least : Int) == v4.Least) && (((nd.Most : Int) == v4.Most) && ((nd.Lazy == v4.Lazy) && true))))))) &&
   (nd.Kind != 5 || (decide (0 ≤ nd.Least) && decide (nd.Least ≤ 1000) && (nd.Most == -1 || (decide (nd.Least ≤ nd.Most) && decide (nd.Most ≤ 1000)))))) := by
 obtain ⟨K, C, A, B, l, m, z⟩ := nd
 rcases kinds h h' with e | e | e | e | e | e | e <;> (simp only at e; subst e; subst hv; simp [good, zeroC]; try (rw [Bool.eq_iff_iff]; simp; grind))
def bareEq (nd v4 : S59) : Bool := ((nd.Kind : Int) == v4.Kind) && (((List.range 4).all fun j => (((nd.Class j) : Int) == (v4.Class j))) && (((nd.A : Int) == v4.A) && (((nd.B : Int) == v4.B) && (((nd.Least : Int) == v4.Least) && (((nd.Most : Int) == v4.Most) && ((nd.Lazy == v4.Lazy) && true))))))
def repOk (nd : S59) : Bool := decide (0 ≤ nd.Least) && decide (nd.Least ≤ 1000) && (nd.Most == -1 || (decide (nd.Least ≤ nd.Most) && decide (nd.Most ≤ 1000)))
theorem cs_app (acc : List Nat) (s : Nat) : cs acc ++ [(s : Int)] = cs (acc ++ [s]) := by simp [cs]

theorem F68_2_no (k : Nat) (acc : List Nat) (i x7 : Int) (o : List S59) (K : Int) (C : Nat → Int) (A B l m : Int) (z : Bool) : F68_2 k (cs acc) i x7 false o K C A B l m z = some (.inr x7) := rfl
theorem F68_3_no (k : Nat) (acc : List Nat) (i x7 : Int) (o : List S59) (K : Int) (C : Nat → Int) (A B l m : Int) (z : Bool) : F68_3 k (cs acc) i x7 false o K C A B l m z = some (.inr x7) := rfl
theorem F68_2_yes (k : Nat) (acc : List Nat) (hl : acc.length ≤ 1000) (hi : Inv acc) (o : List S59) (nd : S59) :
  F68_2 k (cs acc) (acc.length : Int) 1 true o nd.Kind nd.Class nd.A nd.B nd.Least nd.Most nd.Lazy = some (if 1 ≤ acc.length ∧ nd.A = (acc.length : Int) - 1 ∧ repOk nd = true then .inr ((1 + acc.getD (acc.length - 1) 0 : Nat) : Int) else .inl false) := by
 unfold F68_2
 rw [br_true, wm1 _ hl]
 by_cases h1 : 1 ≤ acc.length
 ·have hv := hi (acc.length - 1) (by omega)
  have hat : at? (cs acc) ((acc.length : Int) - 1) = some ((acc.getD (acc.length - 1) 0 : Nat) : Int) := by
   rw [show (acc.length : Int) - 1 = ((acc.length - 1 : Nat) : Int) by omega, cs_at (by omega)]
  have hw : IntKind.i64.wrap (1 + ((acc.getD (acc.length - 1) 0 : Nat) : Int)) = ((1 + acc.getD (acc.length - 1) 0 : Nat) : Int) := by rw [w64 (by omega) (by omega)]; omega
  rw [decide_eq_false (by omega : ¬ (acc.length : Int) < 1), br_false]
  by_cases ha : nd.A = (acc.length : Int) - 1
  ·rw [show (nd.A != (acc.length : Int) - 1) = false by rw [ha]; simp, br_false]
   by_cases h2 : nd.Least < 0
   ·rw [decide_eq_true h2, br_true, if_neg (by rintro ⟨_, _, c⟩; simp [repOk] at c; omega)]
   rw [decide_eq_false h2, br_false]
   by_cases h3 : nd.Least > 1000
   ·rw [decide_eq_true h3, br_true, if_neg (by rintro ⟨_, _, c⟩; simp [repOk] at c; omega)]
   rw [decide_eq_false h3, br_false]
   by_cases h4 : nd.Most = -1
   ·rw [show (nd.Most != -1) = false by rw [h4]; rfl, br_false, hat, bnd_some', hw, if_pos ⟨h1, ha, by simp [repOk, h4]; omega⟩]
   rw [show (nd.Most != -1) = true from bne_iff_ne.2 h4, br_true]
   by_cases h5 : nd.Most < nd.Least
   ·rw [decide_eq_true h5, br_true, if_neg (by rintro ⟨_, _, c⟩; simp [repOk] at c; omega)]
   rw [decide_eq_false h5, br_false]
   by_cases h6 : nd.Most > 1000
   ·rw [decide_eq_true h6, br_true, if_neg (by rintro ⟨_, _, c⟩; simp [repOk] at c; omega)]
   ·rw [decide_eq_false h6, br_false, hat, bnd_some', hw, if_pos ⟨h1, ha, by simp [repOk]; omega⟩]
  ·rw [show (nd.A != (acc.length : Int) - 1) = true from bne_iff_ne.2 ha, br_true, if_neg (fun c => ha c.2.1)]
 ·rw [decide_eq_true (by omega : (acc.length : Int) < 1), br_true, if_neg (fun c => h1 c.1)]
theorem F68_3_yes (k : Nat) (acc : List Nat) (hl : acc.length ≤ 1000) (hi : Inv acc) (o : List S59) (nd : S59) :
  F68_3 k (cs acc) (acc.length : Int) 1 true o nd.Kind nd.Class nd.A nd.B nd.Least nd.Most nd.Lazy =
   some (if 1 ≤ acc.length ∧ nd.B = (acc.length : Int) - 1 ∧ nd.A = (acc.length : Int) - 1 - ((acc.getD (acc.length - 1) 0 : Nat) : Int) ∧ 0 ≤ nd.A then .inr ((1 + acc.getD (acc.length - 1) 0 + acc.getD nd.A.toNat 0 : Nat) : Int) else .inl false) := by
 unfold F68_3
 rw [br_true, wm1 _ hl]
 by_cases h1 : 2 ≤ acc.length
 ·have hv := hi (acc.length - 1) (by omega)
  have hat : at? (cs acc) ((acc.length : Int) - 1) = some ((acc.getD (acc.length - 1) 0 : Nat) : Int) := by
   rw [show (acc.length : Int) - 1 = ((acc.length - 1 : Nat) : Int) by omega, cs_at (by omega)]
  rw [decide_eq_false (by omega : ¬ (acc.length : Int) < 2), br_false]
  by_cases hb : nd.B = (acc.length : Int) - 1
  ·rw [show (nd.B != (acc.length : Int) - 1) = false by rw [hb]; simp, br_false, hat, bnd_some']
   rw [show IntKind.i64.wrap ((acc.length : Int) - 1 - ((acc.getD (acc.length - 1) 0 : Nat) : Int)) = (acc.length : Int) - 1 - ((acc.getD (acc.length - 1) 0 : Nat) : Int) from w64 (by omega) (by omega)]
   by_cases h2 : acc.length ≤ acc.getD (acc.length - 1) 0
   ·rw [decide_eq_true (by omega : ((acc.getD (acc.length - 1) 0 : Nat) : Int) ≥ (acc.length : Int)), br_true, if_neg (by rintro ⟨_, _, c, c'⟩; omega)]
   ·rw [decide_eq_false (by omega : ¬ ((acc.getD (acc.length - 1) 0 : Nat) : Int) ≥ (acc.length : Int)), br_false]
    by_cases ha : nd.A = (acc.length : Int) - 1 - ((acc.getD (acc.length - 1) 0 : Nat) : Int)
    ·have h0 : 0 ≤ nd.A := by omega
     have hw := hi nd.A.toNat (by omega)
     rw [show (nd.A != (acc.length : Int) - 1 - ((acc.getD (acc.length - 1) 0 : Nat) : Int)) = false by rw [← ha]; simp, br_false, if_pos ⟨by omega, hb, ha, h0⟩]
     rw [show at? (cs acc) nd.A = some ((acc.getD nd.A.toNat 0 : Nat) : Int) by rw [show nd.A = ((nd.A.toNat : Nat) : Int) by omega, cs_at (by omega), Int.toNat_natCast], bnd_some']
     rw [show IntKind.i64.wrap (((acc.getD (acc.length - 1) 0 : Nat) : Int) + ((acc.getD nd.A.toNat 0 : Nat) : Int)) = ((acc.getD (acc.length - 1) 0 + acc.getD nd.A.toNat 0 : Nat) : Int) by rw [w64 (by omega) (by omega)]; omega]
     rw [show IntKind.i64.wrap (1 + ((acc.getD (acc.length - 1) 0 + acc.getD nd.A.toNat 0 : Nat) : Int)) = ((1 + acc.getD (acc.length - 1) 0 + acc.getD nd.A.toNat 0 : Nat) : Int) by rw [w64 (by omega) (by omega)]; omega]
    ·rw [show (nd.A != (acc.length : Int) - 1 - ((acc.getD (acc.length - 1) 0 : Nat) : Int)) = true from bne_iff_ne.2 ha, br_true, if_neg (fun c => ha c.2.2.1)]
  ·rw [show (nd.B != (acc.length : Int) - 1) = true from bne_iff_ne.2 hb, br_true, if_neg (fun c => hb c.2.1)]
 ·rw [decide_eq_true (by omega : (acc.length : Int) < 2), br_true, if_neg]
  rintro ⟨c1, _, c, c'⟩
  have hv := hi (acc.length - 1) (by omega)
  omega

theorem F68_1_spec (k : Nat) (nodes : List S59) (hN : nodes.length ≤ 1000) : ∀ (r : List S59) (m : Nat) (acc : List Nat), nodes.drop acc.length = r → acc.length + r.length = nodes.length → r.length < m → Inv acc →
  F68_1 k nodes m (cs acc) (acc.length : Int) = some (szR (szL r acc))
 | [], m, acc, hd, hl, hm, hi => by
  obtain ⟨m, rfl⟩ : ∃ m', m = m' + 1 := ⟨m - 1, by simp at hm; omega⟩
  rw [F68_1, decide_eq_false (by simp at hl; omega : ¬ (acc.length : Int) < (nodes.length : Int)), br_false]
  rfl
 | nd :: r, m, acc, hd, hl, hm, hi => by
  obtain ⟨m, rfl⟩ : ∃ m', m = m' + 1 := ⟨m - 1, by simp at hm; omega⟩
  simp only [List.length_cons] at hl hm
  have hlt : acc.length < nodes.length := by omega
  have hnd : at? nodes (acc.length : Int) = some nd := by
   rw [at_nat]
   have : (nodes.drop acc.length)[0]? = some nd := by rw [hd]; rfl
   rw [List.getElem?_drop] at this
   simpa using this
  have hd' : nodes.drop (acc.length + 1) = r := by
   have : (nodes.drop acc.length).tail = r := by rw [hd]; rfl
   rwa [List.tail_drop] at this
  have rec_ : ∀ s : Nat, 1 ≤ s → s ≤ acc.length + 1 → (req (fits ((cs acc).length + [(s : Int)].length) 8) <| F68_1 k nodes m (cs acc ++ [(s : Int)]) (IntKind.i64.wrap ((acc.length : Int) + 1))) = some (szR (szL r (acc ++ [s]))) := by
   intro s h1 h2
   rw [req_pos (fit (by rw [cs_len]; simp; omega) (by omega)), step1 _ (by omega), cs_app]
   have := F68_1_spec k nodes hN r m (acc ++ [s]) (by rw [List.length_append]; exact hd') (by rw [List.length_append]; simp; omega) (by omega) (hi.app h1 h2)
   rw [List.length_append] at this
   exact this
  rw [F68_1, decide_eq_true (by omega : (acc.length : Int) < (nodes.length : Int)), br_true, hnd, bnd_some', szL]
  by_cases c1 : nd.Kind < 1
  ·rw [decide_eq_true c1, br_true, if_neg (fun h => by have := good_kind h; omega)]; rfl
  rw [decide_eq_false c1, br_false]
  by_cases c2 : nd.Kind > 7
  ·rw [decide_eq_true c2, br_true, if_neg (fun h => by have := good_kind h; omega)]; rfl
  rw [decide_eq_false c2, br_false, F72_spec, bnd_some']
  have hgb := bare_good nd (by omega) (by omega) _ rfl
  generalize (if nd.Kind = 2 then (⟨nd.Kind, nd.Class, 0, 0, 0, 0, false⟩ : S59) else if nd.Kind = 3 ∨ nd.Kind = 4 then ⟨nd.Kind, fun _ => 0, nd.A, nd.B, 0, 0, false⟩
   else if nd.Kind = 5 then ⟨nd.Kind, fun _ => 0, nd.A, 0, nd.Least, nd.Most, nd.Lazy⟩ else ⟨nd.Kind, fun _ => 0, 0, 0, 0, 0, false⟩) = v4 at hgb ⊢
  change good nd = (bareEq nd v4 && (nd.Kind != 5 || repOk nd)) at hgb
  change br (!(bareEq nd v4)) _ _ = _
  cases hq : bareEq nd v4
  ·rw [hq, Bool.false_and] at hgb
   rw [if_neg (by rw [hgb]; simp)]; rfl
  ·rw [hq, Bool.true_and] at hgb
   simp only [Bool.not_true]
   rw [br_false]
   by_cases k5 : nd.Kind = 5
   ·rw [show (nd.Kind == 5) = true by simp [k5], F68_2_yes k acc (by omega) hi, bnd_some', show (nd.Kind == 3) = false by simp [k5], show (nd.Kind == 4) = false by simp [k5]]
    rw [show (nd.Kind != 5) = false by simp [k5], Bool.false_or] at hgb
    unfold nodeSize
    rw [if_pos k5, hgb]
    by_cases hr : repOk nd = true
    ·rw [if_pos hr]
     by_cases h1 : 1 ≤ acc.length ∧ nd.A = (acc.length : Int) - 1
     ·have hv := hi (acc.length - 1) (by omega)
      rw [if_pos ⟨h1.1, h1.2, hr⟩, if_pos h1, alt_inr, br_false, F68_3_no, bnd_some', alt_inr]
      exact rec_ _ (by omega) (by omega)
     ·rw [if_neg (fun c => h1 ⟨c.1, c.2.1⟩), if_neg h1]; rfl
    ·rw [if_neg hr, if_neg (fun c => hr c.2.2)]; rfl
   ·rw [show (nd.Kind != 5) = true by simp [k5], Bool.true_or] at hgb
    rw [if_pos hgb, show (nd.Kind == 5) = false by simp [k5], F68_2_no, bnd_some', alt_inr]
    unfold nodeSize
    rw [if_neg k5]
    by_cases k34 : nd.Kind = 3 ∨ nd.Kind = 4
    ·have e : br (nd.Kind == 3) (bnd (F68_3 k (cs acc) (acc.length : Int) 1 true nodes nd.Kind nd.Class nd.A nd.B nd.Least nd.Most nd.Lazy) fun oh8 => alt oh8 (fun v8 => some (.inl v8)) (fun v8 => req (fits ((cs acc).length + [v8].length) 8) <| F68_1 k nodes m (cs acc ++ [v8]) (IntKind.i64.wrap ((acc.length : Int) + 1))))
       (bnd (F68_3 k (cs acc) (acc.length : Int) 1 (nd.Kind == 4) nodes nd.Kind nd.Class nd.A nd.B nd.Least nd.Most nd.Lazy) fun oh8 => alt oh8 (fun v8 => some (.inl v8)) (fun v8 => req (fits ((cs acc).length + [v8].length) 8) <| F68_1 k nodes m (cs acc ++ [v8]) (IntKind.i64.wrap ((acc.length : Int) + 1)))) =
       (bnd (F68_3 k (cs acc) (acc.length : Int) 1 true nodes nd.Kind nd.Class nd.A nd.B nd.Least nd.Most nd.Lazy) fun oh8 => alt oh8 (fun v8 => some (.inl v8)) (fun v8 => req (fits ((cs acc).length + [v8].length) 8) <| F68_1 k nodes m (cs acc ++ [v8]) (IntKind.i64.wrap ((acc.length : Int) + 1)))) := by
      rcases k34 with h | h
      ·rw [show (nd.Kind == 3) = true by simp [h], br_true]
      ·rw [show (nd.Kind == 3) = false by simp [h], br_false, show (nd.Kind == 4) = true by simp [h]]
     rw [e, if_pos k34, F68_3_yes k acc (by omega) hi, bnd_some']
     split
     ·rename_i c
      have hv := hi (acc.length - 1) (by omega)
      have hw := hi nd.A.toNat (by omega)
      rw [alt_inr]
      exact rec_ _ (by omega) (by omega)
     ·rfl
    ·rw [if_neg k34, show (nd.Kind == 3) = false by simp; omega, br_false, show (nd.Kind == 4) = false by simp; omega, F68_3_no, bnd_some', alt_inr]
     exact rec_ 1 (by omega) (by omega)

def whole (nodes : List S59) : Bool := match szL nodes [] with
 | some L => decide (nodes ≠ [] ∧ L.getD (L.length - 1) 0 = L.length)
 | none => false
theorem last_at (L : List Nat) (h : L ≠ []) (hl : L.length ≤ 1000) : at? (cs L) (IntKind.i64.wrap (((cs L).length : Int) - 1)) = some ((L.getD (L.length - 1) 0 : Nat) : Int) := by
 have : 0 < L.length := List.length_pos_iff.2 h
 rw [cs_len, wm1 _ hl, show (L.length : Int) - 1 = ((L.length - 1 : Nat) : Int) by omega, cs_at (by omega)]
theorem F70_spec {k : Nat} (t : S23) (hN : t.Nodes.length ≤ 1000) (hk : 1001 < k) : ∃ L, F70 k t = some (L, whole t.Nodes) := by
 unfold F70 whole
 by_cases h0 : t.Nodes = []
 ·refine ⟨[], ?_⟩
  simp [h0, br, szL]
 ·have h1 : 0 < t.Nodes.length := List.length_pos_iff.2 h0
  rw [show ((t.Nodes.length : Int) == 0) = false by simp; exact h0, br_false, decide_eq_false (by omega : ¬ (t.Nodes.length : Int) > 2048), br_false, req_pos (mkf (by omega) (by omega))]
  have := F70_1_spec k t.Nodes t.Nodes hN t.Nodes k [] rfl (by simp) (by omega) (by intro j hj; simp at hj)
  simp only [List.length_nil, show ((0 : Nat) : Int) = 0 from rfl] at this
  have e : stR [] t.Nodes.length = List.replicate t.Nodes.length 0 := by simp [stR, cs]
  rw [e] at this
  rw [Int.toNat_natCast, this, bnd_some']
  cases hs : szL t.Nodes [] with
  | none => exact ⟨[], rfl⟩
  | some L =>
   have hL := szL_len hs
   simp at hL
   have hne : L ≠ [] := by intro e; rw [e] at hL; simp at hL; omega
   refine ⟨cs L, ?_⟩
   simp only [szR]
   rw [alt_inr, last_at L hne (by omega), bnd_some', cs_len]
   congr 2
   rw [Bool.eq_iff_iff]
   simp only [beq_iff_eq, decide_eq_true_eq, ne_eq]
   constructor
   ·intro h; exact ⟨h0, by omega⟩
   ·intro h; omega
theorem F68_spec {k : Nat} (t : S23) (hN : t.Nodes.length ≤ 1000) (hk : 1001 < k) : ∃ L, F68 k t = some (L, whole t.Nodes) := by
 unfold F68 whole
 by_cases h0 : t.Nodes = []
 ·refine ⟨[], ?_⟩
  simp [h0, br, szL]
 ·have h1 : 0 < t.Nodes.length := List.length_pos_iff.2 h0
  rw [show ((t.Nodes.length : Int) == 0) = false by simp; exact h0, br_false, decide_eq_false (by omega : ¬ (t.Nodes.length : Int) > 2048), br_false]
  have := F68_1_spec k t.Nodes hN t.Nodes k [] rfl (by simp) (by omega) (by intro j hj; simp at hj)
  simp only [List.length_nil, show ((0 : Nat) : Int) = 0 from rfl] at this
  have e : cs [] = [] := rfl
  rw [e] at this
  rw [this, bnd_some']
  cases hs : szL t.Nodes [] with
  | none => exact ⟨[], rfl⟩
  | some L =>
   have hL := szL_len hs
   simp at hL
   have hne : L ≠ [] := by intro e; rw [e] at hL; simp at hL; omega
   refine ⟨cs L, ?_⟩
   simp only [szR]
   rw [alt_inr, last_at L hne (by omega), bnd_some', cs_len]
   congr 2
   rw [Bool.eq_iff_iff]
   simp only [beq_iff_eq, decide_eq_true_eq, ne_eq]
   constructor
   ·intro h; exact ⟨h0, by omega⟩
   ·intro h; omega
theorem F56_spec {k : Nat} (t : S23) (hN : t.Nodes.length ≤ 1000) (hk : 1001 < k) : F56 k t = some (whole t.Nodes) := by
 obtain ⟨L, h⟩ := F70_spec t hN hk
 unfold F56; rw [h]; rfl
theorem F44_spec {k : Nat} (t : S23) (hN : t.Nodes.length ≤ 1000) (hk : 1001 < k) : F44 k t = some (whole t.Nodes) := by
 obtain ⟨L, h⟩ := F68_spec t hN hk
 unfold F44; rw [h]; rfl

def Vn (i : Nat) (nd : S59) : Prop := good nd = true ∧ (nd.Kind = 5 → 1 ≤ i ∧ nd.A = (i : Int) - 1) ∧ (nd.Kind = 3 ∨ nd.Kind = 4 → 1 ≤ i ∧ nd.B = (i : Int) - 1 ∧ 0 ≤ nd.A ∧ nd.A < (i : Int) - 1)
theorem szL_valid : ∀ {r : List S59} {acc L : List Nat}, szL r acc = some L → Inv acc → ∀ j nd, r[j]? = some nd → Vn (acc.length + j) nd
 | [], acc, L, h, hi, j, nd, hj => by simp at hj
 | x :: r, acc, L, h, hi, j, nd, hj => by
  simp only [szL] at h
  split at h
  ·rename_i hg
   split at h
   ·rename_i s hs
    obtain ⟨h1, h2⟩ := nodeSize_inv hi hs
    cases j with
    | zero =>
     simp at hj; subst hj
     refine ⟨hg, fun k5 => ?_, fun k34 => ?_⟩
     ·unfold nodeSize at hs
      rw [if_pos k5] at hs
      split at hs
      ·assumption
      ·cases hs
     ·unfold nodeSize at hs
      rw [if_neg (by omega), if_pos k34] at hs
      split at hs
      ·rename_i c
       have := hi (acc.length - 1) (by omega)
       simp only [Nat.add_zero]
       exact ⟨c.1, c.2.1, c.2.2.2, by omega⟩
      ·cases hs
    | succ j =>
     have := szL_valid h (hi.app h1 h2) j nd (by simpa using hj)
     rw [List.length_append] at this
     rw [show acc.length + (j + 1) = acc.length + [s].length + j by simp; omega]
     exact this
   ·cases h
  ·cases h
theorem whole_valid {nodes : List S59} (h : whole nodes = true) : nodes ≠ [] ∧ ∀ j nd, nodes[j]? = some nd → Vn j nd := by
 unfold whole at h
 split at h
 ·rename_i L hs
  refine ⟨(decide_eq_true_eq.mp h).1, fun j nd hj => ?_⟩
  have := szL_valid hs (by intro j hj; simp at hj) j nd hj
  simpa using this
 ·cases h
def anc (nodes : List S59) : Nat → List Bool → List Bool → Bool
 | 0, _, _ => true
 | i + 1, h, d => match nodes[i]? with
  | none => true
  | some nd => if nd.Kind = 6 then h.getD i false && anc nodes i h d else if nd.Kind = 7 then d.getD i false && anc nodes i h d
   else if nd.Kind = 4 then anc nodes i ((h.set nd.A.toNat (h.getD i false)).set nd.B.toNat (h.getD i false)) ((d.set nd.A.toNat (d.getD i false)).set nd.B.toNat (d.getD i false))
   else if nd.Kind = 3 then anc nodes i (h.set nd.A.toNat (h.getD i false)) (d.set nd.B.toNat (d.getD i false))
   else anc nodes i h d
def ancR : Bool → Bool ⊕ Unit
 | true => .inr ()
 | false => .inl false
def ancE : Bool → Int
 | true => 0
 | false => 51
theorem b_at {h : List Bool} {i : Nat} (hi : i < h.length) : at? h (i : Int) = some (h.getD i false) := by
 rw [at_nat]; simp [List.getElem?_eq_getElem hi, List.getD_eq_getElem?_getD]
theorem b_atI {h : List Bool} {A : Int} (h0 : 0 ≤ A) (hi : A < h.length) : at? h A = some (h.getD A.toNat false) := by
 rw [show A = ((A.toNat : Nat) : Int) by omega, b_at (by omega), Int.toNat_natCast]
theorem getD_set_ne {h : List Bool} {i j : Nat} {v : Bool} (e : i ≠ j) : (h.set i v).getD j false = h.getD j false := by
 simp [List.getD_eq_getElem?_getD, List.getElem?_set_ne e]

theorem F45_1_spec (k : Nat) (nodes : List S59) (hN : nodes.length ≤ 1000) (hv : ∀ j nd, nodes[j]? = some nd → Vn j nd) : ∀ (i m : Nat) (h d : List Bool), h.length = nodes.length → d.length = nodes.length → i ≤ nodes.length → i < m →
  F45_1 k nodes m h d ((i : Int) - 1) = some (ancR (anc nodes i h d))
 | 0, m, h, d, hh, hd, hi, hm => by
  obtain ⟨m, rfl⟩ : ∃ m', m = m' + 1 := ⟨m - 1, by omega⟩
  rw [F45_1]; simp [br, anc, ancR]
 | i + 1, m, h, d, hh, hd, hi, hm => by
  obtain ⟨m, rfl⟩ : ∃ m', m = m' + 1 := ⟨m - 1, by omega⟩
  have hlt : i < nodes.length := by omega
  obtain ⟨nd, hnd⟩ : ∃ nd, nodes[i]? = some nd := ⟨_, List.getElem?_eq_getElem hlt⟩
  have hV := hv i nd hnd
  obtain ⟨g1, g2⟩ := good_kind hV.1
  rw [F45_1, show ((i + 1 : Nat) : Int) - 1 = (i : Int) by omega, decide_eq_true (by omega : (i : Int) ≥ 0), br_true, at_nat, hnd, bnd_some', wm1 i (by omega), anc, hnd]
  simp only
  have ih := fun h' d' hh' hd' => F45_1_spec k nodes hN hv i m h' d' hh' hd' (by omega) (by omega)
  rw [b_at (by rw [hh]; exact hlt : i < h.length), b_at (by rw [hd]; exact hlt : i < d.length)]
  by_cases k4 : nd.Kind = 4
  ·obtain ⟨c1, c2, c3, c4⟩ := hV.2.2 (.inr k4)
   rw [show (nd.Kind == 4) = true by simp [k4], br_true, bnd_some', b_atI c3 (by rw [hh]; omega), bnd_some', b_at (by rw [List.length_set, hh]; exact hlt), bnd_some', b_atI (by omega) (by rw [List.length_set, hh]; omega), bnd_some', bnd_some',
    b_atI c3 (by rw [hd]; omega), bnd_some', b_at (by rw [List.length_set, hd]; exact hlt), bnd_some', b_atI (by omega) (by rw [List.length_set, hd]; omega), bnd_some', getD_set_ne (by omega), getD_set_ne (by omega),
    ih _ _ (by simp [hh]) (by simp [hd]), if_neg (show ¬ nd.Kind = 6 by omega), if_neg (show ¬ nd.Kind = 7 by omega), if_pos k4]
  rw [show (nd.Kind == 4) = false by simp [k4], br_false]
  by_cases k3 : nd.Kind = 3
  ·obtain ⟨c1, c2, c3, c4⟩ := hV.2.2 (.inl k3)
   rw [show (nd.Kind == 3) = true by simp [k3], br_true, bnd_some', b_atI c3 (by rw [hh]; omega), bnd_some', bnd_some', b_atI (by omega) (by rw [hd]; omega), bnd_some',
    ih _ _ (by simp [hh]) (by simp [hd]), if_neg (show ¬ nd.Kind = 6 by omega), if_neg (show ¬ nd.Kind = 7 by omega), if_neg k4, if_pos k3]
  rw [show (nd.Kind == 3) = false by simp [k3], br_false]
  by_cases k6 : nd.Kind = 6
  ·rw [show (nd.Kind == 6) = true by simp [k6], br_true, bnd_some', if_pos k6]
   cases hb : h.getD i false
   ·rfl
   ·simp only [Bool.not_true, Bool.true_and]
    rw [br_false, ih _ _ hh hd]
  rw [show (nd.Kind == 6) = false by simp [k6], br_false, if_neg k6]
  by_cases k7 : nd.Kind = 7
  ·rw [show (nd.Kind == 7) = true by simp [k7], br_true, bnd_some', if_pos k7]
   cases hb : d.getD i false
   ·rfl
   ·simp only [Bool.not_true, Bool.true_and]
    rw [br_false, ih _ _ hh hd]
  rw [show (nd.Kind == 7) = false by simp [k7], br_false, if_neg k7, if_neg k4, if_neg k3, ih _ _ hh hd]

theorem F36_1_spec (k : Nat) (nodes : List S59) (hN : nodes.length ≤ 1000) (hv : ∀ j nd, nodes[j]? = some nd → Vn j nd) : ∀ (i m : Nat) (h d : List Bool), h.length = nodes.length → d.length = nodes.length → i < nodes.length → i < m →
  F36_1 k nodes m h d (i : Int) = some (ancE (anc nodes (i + 1) h d))
 | i, m, h, d, hh, hd, hlt, hm => by
  obtain ⟨m, rfl⟩ : ∃ m', m = m' + 1 := ⟨m - 1, by omega⟩
  obtain ⟨nd, hnd⟩ : ∃ nd, nodes[i]? = some nd := ⟨_, List.getElem?_eq_getElem hlt⟩
  have hV := hv i nd hnd
  obtain ⟨g1, g2⟩ := good_kind hV.1
  have ih : ∀ h' d' : List Bool, h'.length = nodes.length → d'.length = nodes.length → br (decide ((i : Int) > 0)) (F36_1 k nodes m h' d' (IntKind.i64.wrap ((i : Int) - 1))) (some 0) = some (ancE (anc nodes i h' d')) := by
   intro h' d' hh' hd'
   cases i with
   | zero => simp [br, anc, ancE]
   | succ i =>
    rw [decide_eq_true (by omega), br_true, wm1 _ (by omega), show ((i + 1 : Nat) : Int) - 1 = (i : Int) by omega]
    exact F36_1_spec k nodes hN hv i m h' d' hh' hd' (by omega) (by omega)
  have two : F36_2 k h d (i : Int) nd.Kind (nd.Kind == 6) nodes nd.Kind nd.Class nd.A nd.B nd.Least nd.Most nd.Lazy = some (nd.Kind == 6 || nd.Kind == 7) := by
   unfold F36_2
   cases nd.Kind == 6 <;> rfl
  rw [F36_1, at_nat, hnd, bnd_some', two, bnd_some', anc, hnd]
  simp only
  rw [b_at (by rw [hh]; exact hlt : i < h.length), b_at (by rw [hd]; exact hlt : i < d.length)]
  by_cases k6 : nd.Kind = 6
  ·rw [show (nd.Kind == 6) = true by simp [k6], Bool.true_or, br_true, br_true, bnd_some', if_pos k6, show (nd.Kind == 7) = false by simp [k6]]
   cases hb : h.getD i false
   ·rfl
   ·simp only [Bool.not_true, Bool.true_and]
    rw [br_false, br_false, ih _ _ hh hd]
  rw [show (nd.Kind == 6) = false by simp [k6], Bool.false_or, if_neg k6]
  by_cases k7 : nd.Kind = 7
  ·rw [show (nd.Kind == 7) = true by simp [k7], br_true, br_false, br_true, bnd_some', if_pos k7]
   cases hb : d.getD i false
   ·rfl
   ·simp only [Bool.not_true, Bool.true_and]
    rw [br_false, ih _ _ hh hd]
  rw [show (nd.Kind == 7) = false by simp [k7], br_false, if_neg k7]
  by_cases k4 : nd.Kind = 4
  ·obtain ⟨c1, c2, c3, c4⟩ := hV.2.2 (.inr k4)
   rw [show (nd.Kind == 4) = true by simp [k4], br_true, bnd_some', bnd_some', b_atI c3 (by rw [hh]; omega), bnd_some', b_atI (by omega) (by rw [List.length_set, hh]; omega), bnd_some', b_atI c3 (by rw [hd]; omega), bnd_some',
    b_atI (by omega) (by rw [List.length_set, hd]; omega), bnd_some', ih _ _ (by simp [hh]) (by simp [hd]), if_pos k4]
  rw [show (nd.Kind == 4) = false by simp [k4], br_false, if_neg k4]
  by_cases k3 : nd.Kind = 3
  ·obtain ⟨c1, c2, c3, c4⟩ := hV.2.2 (.inl k3)
   rw [show (nd.Kind == 3) = true by simp [k3], br_true, bnd_some', bnd_some', b_atI c3 (by rw [hh]; omega), bnd_some', b_atI (by omega) (by rw [hd]; omega), bnd_some',
    ih _ _ (by simp [hh]) (by simp [hd]), if_pos k3]
  rw [show (nd.Kind == 3) = false by simp [k3], br_false, if_neg k3, ih _ _ hh hd]

def rootB (N : Nat) : List Bool := (List.replicate N false).set (N - 1) true
def okTree (nodes : List S59) : Bool := whole nodes && anc nodes nodes.length (rootB nodes.length) (rootB nodes.length)
theorem F36_spec {k : Nat} (t : S23) (hN : t.Nodes.length ≤ 1000) (hk : 1001 < k) : F36 k t = some (if whole t.Nodes = true then (if okTree t.Nodes = true then 0 else 51) else 50) := by
 unfold F36
 rw [F56_spec t hN hk, bnd_some']
 cases hw : whole t.Nodes
 ·rfl
 ·simp only [Bool.not_true]
  obtain ⟨h0, hv⟩ := whole_valid hw
  have h1 : 0 < t.Nodes.length := List.length_pos_iff.2 h0
  rw [br_false, req_pos (mkf (by omega) (by omega)), wm1 _ (by omega), show (t.Nodes.length : Int) - 1 = ((t.Nodes.length - 1 : Nat) : Int) by omega]
  simp only [Int.toNat_natCast]
  rw [b_at (by simp; omega), bnd_some', show (List.replicate t.Nodes.length false).set (t.Nodes.length - 1) true = rootB t.Nodes.length from rfl,
   F36_1_spec k t.Nodes hN hv (t.Nodes.length - 1) k _ _ (by simp [rootB]) (by simp [rootB]) (by omega) (by omega), show t.Nodes.length - 1 + 1 = t.Nodes.length by omega]
  simp only [okTree, hw, Bool.true_and, if_true]
  cases anc t.Nodes t.Nodes.length (rootB t.Nodes.length) (rootB t.Nodes.length) <;> rfl
theorem F20_spec {k : Nat} (t : S23) (hN : t.Nodes.length ≤ 1000) (hk : 1001 < k) : F20 k t = some (if whole t.Nodes = true then (if okTree t.Nodes = true then 0 else 51) else 50) := by
 unfold F20
 rw [F44_spec t hN hk, bnd_some']
 cases hw : whole t.Nodes
 ·rfl
 ·simp only [Bool.not_true]
  obtain ⟨h0, hv⟩ := whole_valid hw
  have h1 : 0 < t.Nodes.length := List.length_pos_iff.2 h0
  have e : F45 k t = some (okTree t.Nodes) := by
   unfold F45
   rw [req_pos (mkf (by omega) (by omega)), wm1 _ (by omega), show (t.Nodes.length : Int) - 1 = ((t.Nodes.length - 1 : Nat) : Int) by omega]
   simp only [Int.toNat_natCast]
   rw [b_at (by simp; omega), bnd_some', show (List.replicate t.Nodes.length false).set (t.Nodes.length - 1) true = rootB t.Nodes.length from rfl]
   have := F45_1_spec k t.Nodes hN hv t.Nodes.length k (rootB t.Nodes.length) (rootB t.Nodes.length) (by simp [rootB]) (by simp [rootB]) (by omega) (by omega)
   rw [show ((t.Nodes.length - 1 : Nat) : Int) = (t.Nodes.length : Int) - 1 by omega, this, bnd_some']
   simp only [okTree, hw, Bool.true_and]
   cases anc t.Nodes t.Nodes.length (rootB t.Nodes.length) (rootB t.Nodes.length) <;> rfl
  rw [br_false, e, bnd_some']
  cases okTree t.Nodes <;> rfl
abbrev noS : SP := fun _ _ => false
def repS (n k : Nat) (f : SP) (least most : Int) : SP := seqS n (powS n k f least.toNat) (powS n k (altS f idS) (if most = -1 then n + 1 else (most - least).toNat))
def nodS (k : Nat) (multi : Bool) (w : List Nat) (nd : S59) (fs : List SP) : SP :=
 if nd.Kind = 3 then seqS w.length (fs.getD nd.A.toNat noS) (fs.getD nd.B.toNat noS) else if nd.Kind = 4 then altS (fs.getD nd.A.toNat noS) (fs.getD nd.B.toNat noS)
 else if nd.Kind = 5 then repS w.length k (fs.getD nd.A.toNat noS) nd.Least nd.Most else leafS nd.Kind nd.Class multi w
theorem tbs_at {n : Nat} {fs : List SP} {A : Int} (h0 : 0 ≤ A) (h : A < fs.length) : at? (fs.map (tb n)) A = some (tb n (fs.getD A.toNat noS)) := by
 rw [show A = ((A.toNat : Nat) : Int) by omega, at_nat, Int.toNat_natCast]
 have h' : A.toNat < fs.length := by omega
 rw [List.getElem?_map, List.getElem?_eq_getElem h', List.getD_eq_getElem?_getD, List.getElem?_eq_getElem h']
 rfl
theorem good_rep {nd : S59} (h : good nd = true) (h5 : nd.Kind = 5) : 0 ≤ nd.Least ∧ nd.Least ≤ 1000 ∧ (nd.Most = -1 ∨ nd.Least ≤ nd.Most ∧ nd.Most ≤ 1000) := by
 unfold good at h
 simp only [Bool.and_eq_true, Bool.or_eq_true, decide_eq_true_eq, bne_iff_ne, beq_iff_eq] at h
 rcases h.2 with h | h
 ·exact absurd h5 h
 ·exact ⟨h.1.1, h.1.2, h.2⟩
theorem F38_spec {k : Nat} (multi : Bool) (w : List Nat) (hB : Bn w) (hw : w.length ≤ 1000) (hk : 1010 < k) (nd : S59) (fs : List SP) (hV : Vn fs.length nd) (hc : WF nd.Class) :
  F38 k (S53.mk (cs w) multi) nd (fs.map (tb w.length)) = some (tb w.length (nodS k multi w nd fs)) := by
 obtain ⟨g1, g2⟩ := good_kind hV.1
 unfold F38 nodS
 simp only [cs_len]
 by_cases k2 : nd.Kind = 2
 ·rw [show (nd.Kind == 2) = true by simp [k2], br_true, F37_spec hw (by omega), bnd_some']
  have := F38_1_spec k nd.Class hc w hB hw (cs w) multi nd.Kind nd.A nd.B nd.Least nd.Most nd.Lazy k 0 (by omega) (by omega)
  rw [show ((0 : Nat) : Int) = 0 from rfl, pre_zero] at this
  rw [this, bnd_some', if_neg (by omega), if_neg (by omega), if_neg (by omega)]
  simp [leafS, k2]
 rw [show (nd.Kind == 2) = false by simp [k2], br_false]
 by_cases k6 : nd.Kind = 6
 ·rw [show (nd.Kind == 6) = true by simp [k6], br_true, F58s59_spec multi w rfl hw (by omega), bnd_some', if_neg (by omega), if_neg (by omega), if_neg (by omega)]
  simp [leafS, k6]
 rw [show (nd.Kind == 6) = false by simp [k6], br_false]
 by_cases k7 : nd.Kind = 7
 ·rw [show (nd.Kind == 7) = true by simp [k7], br_true, F58s60_spec multi w rfl hw (by omega), bnd_some', if_neg (by omega), if_neg (by omega), if_neg (by omega)]
  simp [leafS, k7]
 rw [show (nd.Kind == 7) = false by simp [k7], br_false]
 by_cases k3 : nd.Kind = 3
 ·obtain ⟨c1, c2, c3, c4⟩ := hV.2.2 (.inl k3)
  rw [show (nd.Kind == 3) = true by simp [k3], br_true, tbs_at c3 (by omega), bnd_some', tbs_at (by omega) (by omega), bnd_some', F61_spec _ _ hw (by omega), bnd_some', if_pos k3]
 rw [show (nd.Kind == 3) = false by simp [k3], br_false, if_neg k3]
 by_cases k4 : nd.Kind = 4
 ·obtain ⟨c1, c2, c3, c4⟩ := hV.2.2 (.inr k4)
  rw [show (nd.Kind == 4) = true by simp [k4], br_true, tbs_at c3 (by omega), bnd_some', tbs_at (by omega) (by omega), bnd_some', F62_spec _ _ hw (by omega), bnd_some', if_pos k4]
 rw [show (nd.Kind == 4) = false by simp [k4], br_false, if_neg k4]
 by_cases k5 : nd.Kind = 5
 ·obtain ⟨c1, c2⟩ := hV.2.1 k5
  obtain ⟨r1, r2, r3⟩ := good_rep hV.1 k5
  have e2 : F38_2 k (w.length : Int) (tb w.length (fs.getD nd.A.toNat noS)) (IntKind.i64.wrap (nd.Most - nd.Least)) (nd.Most == -1) (cs w) multi nd.Kind nd.Class nd.A nd.B nd.Least nd.Most nd.Lazy =
    some (((if nd.Most = -1 then w.length + 1 else (nd.Most - nd.Least).toNat : Nat)) : Int) := by
   unfold F38_2
   by_cases hm : nd.Most = -1
   ·rw [show (nd.Most == -1) = true by simp [hm], br_true, step1 _ (by omega), if_pos hm]
   ·rw [show (nd.Most == -1) = false by simpa using hm, br_false, if_neg hm, w64 (by omega) (by omega)]
    congr 1; omega
  rw [show (nd.Kind == 5) = true by simp [k5], br_true, tbs_at (by omega) (by omega), bnd_some', e2, bnd_some', show (0 : Int) = ((0 : Nat) : Int) from rfl, F63_spec _ 0 hw hk (by omega), pow_zero, bnd_some', F62_spec _ _ hw (by omega), bnd_some',
   show F63 k (tb w.length (fs.getD nd.A.toNat noS)) nd.Least = some (tb w.length (powS w.length k (fs.getD nd.A.toNat noS) nd.Least.toNat)) by rw [show nd.Least = ((nd.Least.toNat : Nat) : Int) by omega, F63_spec _ _ hw hk (by omega), Int.toNat_natCast],
   bnd_some', F63_spec _ _ hw hk (by split <;> omega), bnd_some', F61_spec _ _ hw (by omega), bnd_some', if_pos k5]
  rfl
 ·rw [show (nd.Kind == 5) = false by simp [k5], br_false, F58s64_spec hw (by omega), bnd_some', if_neg k5]
  have k1 : nd.Kind = 1 := by omega
  simp [leafS, k1]

theorem F42_spec {k n : Nat} (f : SP) (l m : Int) (hn : n ≤ 1000) (hk : 1010 < k) (r1 : 0 ≤ l) (r2 : l ≤ 1000) (r3 : m = -1 ∨ l ≤ m ∧ m ≤ 1000) : F42 k (tb n f) l m = some (tb n (repS n k f l m)) := by
 unfold F42 repS
 rw [tb_lenm n f (by omega), F65_spec hn (by omega), bnd_some', F41_spec _ _ hn (by omega), bnd_some']
 have e : F66 k (tb n f) l = some (tb n (powS n k f l.toNat)) := by
  rw [show l = ((l.toNat : Nat) : Int) by omega, F66_spec _ _ hn hk (by omega), Int.toNat_natCast]
 by_cases hm : m = -1
 ·rw [show (m == -1) = true by simp [hm], br_true, e, bnd_some', tb_len, F66_spec _ _ hn hk (by omega), bnd_some', F40_spec _ _ hn (by omega), bnd_some', if_pos hm]
 ·rw [show (m == -1) = false by simpa using hm, br_false, e, bnd_some', w64 (by omega) (by omega), show m - l = (((m - l).toNat : Nat) : Int) by omega, F66_spec _ _ hn hk (by omega), bnd_some', F40_spec _ _ hn (by omega), bnd_some', if_neg hm, Int.toNat_natCast]

def meanL (k : Nat) (multi : Bool) (w : List Nat) : List S59 → List SP → List SP
 | [], fs => fs
 | nd :: r, fs => meanL k multi w r (fs ++ [nodS k multi w nd fs])
theorem meanL_len (k : Nat) (multi : Bool) (w : List Nat) : ∀ (r : List S59) (fs : List SP), (meanL k multi w r fs).length = fs.length + r.length
 | [], fs => by simp [meanL]
 | nd :: r, fs => by rw [meanL, meanL_len]; simp; omega
theorem F13_1_spec {k : Nat} (multi : Bool) (w : List Nat) (hB : Bn w) (hw : w.length ≤ 1000) (hk : 1010 < k) (nodes o : List S59) (hN : nodes.length ≤ 1000) (hv : ∀ j nd, nodes[j]? = some nd → Vn j nd ∧ WF nd.Class) :
  ∀ (r : List S59) (m : Nat) (fs : List SP), nodes.drop fs.length = r → fs.length + r.length = nodes.length → r.length < m →
   F13_1 k nodes (nodes.length : Int) o (cs w) multi m (fs.map (tb w.length)) (fs.length : Int) = some ((meanL k multi w r fs).map (tb w.length))
 | [], m, fs, hd, hl, hm => by
  obtain ⟨m, rfl⟩ : ∃ m', m = m' + 1 := ⟨m - 1, by simp at hm; omega⟩
  rw [F13_1, decide_eq_false (by simp at hl; omega : ¬ (fs.length : Int) < (nodes.length : Int)), br_false]
  rfl
 | nd :: r, m, fs, hd, hl, hm => by
  obtain ⟨m, rfl⟩ : ∃ m', m = m' + 1 := ⟨m - 1, by simp at hm; omega⟩
  simp only [List.length_cons] at hl hm
  have hnd : nodes[fs.length]? = some nd := by
   have : (nodes.drop fs.length)[0]? = some nd := by rw [hd]; rfl
   rw [List.getElem?_drop] at this
   simpa using this
  have hd' : nodes.drop (fs.length + 1) = r := by
   have : (nodes.drop fs.length).tail = r := by rw [hd]; rfl
   rwa [List.tail_drop] at this
  obtain ⟨hV, hc⟩ := hv _ nd hnd
  rw [F13_1, decide_eq_true (by omega : (fs.length : Int) < (nodes.length : Int)), br_true, at_nat, hnd, bnd_some', F38_spec multi w hB hw hk nd fs hV hc, bnd_some', req_pos (fit (by simp; omega) (by omega)), step1 _ (by omega), meanL]
  have := F13_1_spec multi w hB hw hk nodes o hN hv r m (fs ++ [nodS k multi w nd fs]) (by rw [List.length_append]; exact hd') (by simp; omega) (by omega)
  rw [List.map_append, List.length_append] at this
  exact this
theorem F14_1_spec {k : Nat} (multi : Bool) (w : List Nat) (hB : Bn w) (hw : w.length ≤ 1000) (hk : 1010 < k) (nodes : List S59) (hN : nodes.length ≤ 1000) (hv : ∀ j nd, nodes[j]? = some nd → Vn j nd ∧ WF nd.Class) :
  ∀ (r : List S59) (m : Nat) (fs : List SP), nodes.drop fs.length = r → fs.length + r.length = nodes.length → r.length < m →
   F14_1 k multi (cs w) nodes m (fs.map (tb w.length)) (fs.length : Int) = some ((meanL k multi w r fs).map (tb w.length))
 | [], m, fs, hd, hl, hm => by
  obtain ⟨m, rfl⟩ : ∃ m', m = m' + 1 := ⟨m - 1, by simp at hm; omega⟩
  rw [F14_1, decide_eq_false (by simp at hl; omega : ¬ (fs.length : Int) < (nodes.length : Int)), br_false]
  rfl
 | nd :: r, m, fs, hd, hl, hm => by
  obtain ⟨m, rfl⟩ : ∃ m', m = m' + 1 := ⟨m - 1, by simp at hm; omega⟩
  simp only [List.length_cons] at hl hm
  have hnd : nodes[fs.length]? = some nd := by
   have : (nodes.drop fs.length)[0]? = some nd := by rw [hd]; rfl
   rw [List.getElem?_drop] at this
   simpa using this
  have hd' : nodes.drop (fs.length + 1) = r := by
   have : (nodes.drop fs.length).tail = r := by rw [hd]; rfl
   rwa [List.tail_drop] at this
  obtain ⟨hV, hc⟩ := hv _ nd hnd
  obtain ⟨g1, g2⟩ := good_kind hV.1
  have ih := F14_1_spec multi w hB hw hk nodes hN hv r m (fs ++ [nodS k multi w nd fs]) (by rw [List.length_append]; exact hd') (by simp; omega) (by omega)
  rw [List.map_append, List.length_append] at ih
  have fin : (req (fits ((fs.map (tb w.length)).length + [tb w.length (nodS k multi w nd fs)].length) 24) <| F14_1 k multi (cs w) nodes m (fs.map (tb w.length) ++ [tb w.length (nodS k multi w nd fs)]) (IntKind.i64.wrap ((fs.length : Int) + 1))) = some ((meanL k multi w (nd :: r) fs).map (tb w.length)) := by
   rw [req_pos (fit (by simp; omega) (by omega)), step1 _ (by omega), meanL]
   exact ih
  rw [F14_1, decide_eq_true (by omega : (fs.length : Int) < (nodes.length : Int)), br_true, at_nat, hnd, bnd_some']
  by_cases k3 : nd.Kind = 3
  ·obtain ⟨c1, c2, c3, c4⟩ := hV.2.2 (.inl k3)
   rw [show (nd.Kind == 3) = true by simp [k3], br_true, tbs_at c3 (by omega), bnd_some', tbs_at (by omega) (by omega), bnd_some', F40_spec _ _ hw (by omega), bnd_some']
   rw [show nodS k multi w nd fs = seqS w.length (fs.getD nd.A.toNat noS) (fs.getD nd.B.toNat noS) by unfold nodS; rw [if_pos k3]] at fin
   exact fin
  rw [show (nd.Kind == 3) = false by simp [k3], br_false]
  by_cases k4 : nd.Kind = 4
  ·obtain ⟨c1, c2, c3, c4⟩ := hV.2.2 (.inr k4)
   rw [show (nd.Kind == 4) = true by simp [k4], br_true, tbs_at c3 (by omega), bnd_some', tbs_at (by omega) (by omega), bnd_some', F41_spec _ _ hw (by omega), bnd_some']
   rw [show nodS k multi w nd fs = altS (fs.getD nd.A.toNat noS) (fs.getD nd.B.toNat noS) by unfold nodS; rw [if_neg k3, if_pos k4]] at fin
   exact fin
  rw [show (nd.Kind == 4) = false by simp [k4], br_false]
  by_cases k5 : nd.Kind = 5
  ·obtain ⟨c1, c2⟩ := hV.2.1 k5
   obtain ⟨r1, r2, r3⟩ := good_rep hV.1 k5
   rw [show (nd.Kind == 5) = true by simp [k5], br_true, tbs_at (by omega) (by omega), bnd_some', F42_spec _ _ _ hw hk r1 r2 r3, bnd_some']
   rw [show nodS k multi w nd fs = repS w.length k (fs.getD nd.A.toNat noS) nd.Least nd.Most by unfold nodS; rw [if_neg k3, if_neg k4, if_pos k5]] at fin
   exact fin
  ·rw [show (nd.Kind == 5) = false by simp [k5], br_false, F43_spec nd hc multi w hB hw (by omega), bnd_some']
   rw [show nodS k multi w nd fs = leafS nd.Kind nd.Class multi w by unfold nodS; rw [if_neg k3, if_neg k4, if_neg k5]] at fin
   exact fin

def spanS (k : Nat) (multi : Bool) (w : List Nat) (nodes : List S59) : SP :=
 if okTree nodes = true then (meanL k multi w nodes []).getD (nodes.length - 1) noS else noS
theorem okTree_valid {nodes : List S59} (h : okTree nodes = true) : nodes ≠ [] ∧ whole nodes = true ∧ ∀ j nd, nodes[j]? = some nd → Vn j nd := by
 unfold okTree at h
 rw [Bool.and_eq_true] at h
 exact ⟨(whole_valid h.1).1, h.1, (whole_valid h.1).2⟩
theorem chk_ne {nodes : List S59} : ((if whole nodes = true then (if okTree nodes = true then (0 : Int) else 51) else 50) != 0) = !(okTree nodes) := by
 by_cases h : okTree nodes = true
 ·rw [if_pos (okTree_valid h).2.1, if_pos h, h]; rfl
 ·have h' : okTree nodes = false := by simpa using h
  rw [if_neg h, h']
  split <;> rfl
def WT (nodes : List S59) : Prop := ∀ nd ∈ nodes, WF nd.Class
theorem last_tb {k : Nat} {multi : Bool} {w : List Nat} {nodes : List S59} (h0 : nodes ≠ []) (hN : nodes.length ≤ 1000) :
  at? ((meanL k multi w nodes []).map (tb w.length)) (IntKind.i64.wrap ((((meanL k multi w nodes []).map (tb w.length)).length : Int) - 1)) = some (tb w.length ((meanL k multi w nodes []).getD (nodes.length - 1) noS)) := by
 have h1 : 0 < nodes.length := List.length_pos_iff.2 h0
 have hl := meanL_len k multi w nodes []
 simp at hl
 rw [List.length_map, hl, wm1 _ hN, tbs_at (by omega) (by rw [hl]; omega), show ((nodes.length : Int) - 1).toNat = nodes.length - 1 by omega]
theorem F13_spec {k : Nat} (t : S23) (multi : Bool) (w : List Nat) (hB : Bn w) (hw : w.length ≤ 1000) (hk : 1010 < k) (hN : t.Nodes.length ≤ 1000) (hc : WT t.Nodes) : F13 k t multi (cs w) = some (tb w.length (spanS k multi w t.Nodes)) := by
 unfold F13 spanS
 rw [F36_spec t hN (by omega), bnd_some', chk_ne]
 by_cases h : okTree t.Nodes = true
 ·obtain ⟨h0, _, hv⟩ := okTree_valid h
  rw [h, if_pos rfl]
  simp only [Bool.not_true]
  have := F13_1_spec (k := k) multi w hB hw hk t.Nodes t.Nodes hN (fun j nd hj => ⟨hv j nd hj, hc nd (List.mem_of_getElem? hj)⟩) t.Nodes k [] rfl (by simp) (by omega)
  simp only [List.map_nil, List.length_nil, show ((0 : Nat) : Int) = 0 from rfl] at this
  rw [br_false, this, bnd_some', last_tb h0 hN, bnd_some']
 ·rw [if_neg h, show okTree t.Nodes = false by simpa using h]
  simp only [Bool.not_false]
  rw [br_true, cs_len, F37_spec hw (by omega), bnd_some']
theorem F14_spec {k : Nat} (t : S23) (multi : Bool) (w : List Nat) (hB : Bn w) (hw : w.length ≤ 1000) (hk : 1010 < k) (hN : t.Nodes.length ≤ 1000) (hc : WT t.Nodes) : F14 k t multi (cs w) = some (tb w.length (spanS k multi w t.Nodes)) := by
 unfold F14 spanS
 rw [F20_spec t hN (by omega), bnd_some', chk_ne]
 by_cases h : okTree t.Nodes = true
 ·obtain ⟨h0, _, hv⟩ := okTree_valid h
  rw [h, if_pos rfl]
  simp only [Bool.not_true]
  have := F14_1_spec (k := k) multi w hB hw hk t.Nodes hN (fun j nd hj => ⟨hv j nd hj, hc nd (List.mem_of_getElem? hj)⟩) t.Nodes k [] rfl (by simp) (by omega)
  simp only [List.map_nil, List.length_nil, show ((0 : Nat) : Int) = 0 from rfl] at this
  rw [br_false, this, bnd_some', last_tb h0 hN, bnd_some']
 ·rw [if_neg h, show okTree t.Nodes = false by simpa using h]
  simp only [Bool.not_false]
  rw [br_true, cs_len, F39_spec hw (by omega), bnd_some']
theorem F15_1_self (k : Nat) (L : List Int) (hL : L.length ≤ 1000) : ∀ (m p : Nat), p ≤ L.length → L.length - p < m → F15_1 k L L (L.length : Int) m (p : Int) = some (.inr ())
 | 0, p, hp, h => by omega
 | m + 1, p, hp, h => by
  rw [F15_1]
  by_cases hlt : p < L.length
  ·rw [decide_eq_true (by omega : (p : Int) < (L.length : Int)), br_true, at_nat, List.getElem?_eq_getElem hlt, bnd_some', bnd_some', show (L[p] != L[p]) = false by simp, br_false, step1 _ (by omega)]
   exact F15_1_self k L hL m (p + 1) (by omega) (by omega)
  ·rw [decide_eq_false (by omega : ¬ (p : Int) < (L.length : Int)), br_false]
theorem F15_self {k : Nat} (L : List Int) (hL : L.length ≤ 1000) (hk : 1001 < k) : F15 k L L = some true := by
 unfold F15
 rw [show ((L.length : Int) != (L.length : Int)) = false by simp, br_false]
 have := F15_1_self k L hL k 0 (by omega) (by omega)
 rw [show ((0 : Nat) : Int) = 0 from rfl] at this
 rw [this]; rfl
theorem F12_2_self (k n : Nat) (f : SP) (i : Nat) (hi : i ≤ n) (hn : n ≤ 1000) : ∀ (m p : Nat), p ≤ n + 1 → n + 1 - p < m → F12_2 k (tb n f) (tb n f) (i : Int) m (p : Int) = some (.inr ())
 | 0, p, hp, h => by omega
 | m + 1, p, hp, h => by
  rw [F12_2, tb_at f hi, bnd_some', row_len]
  by_cases hlt : p ≤ n
  ·rw [decide_eq_true (by omega : (p : Int) < ((n + 1 : Nat) : Int)), br_true, row_at _ hlt, bnd_some', bnd_some', row_at _ hlt, bnd_some', show (f i p != f i p) = false by simp, br_false, step1 _ (by omega)]
   exact F12_2_self k n f i hi hn m (p + 1) (by omega) (by omega)
  ·rw [decide_eq_false (by omega : ¬ (p : Int) < ((n + 1 : Nat) : Int)), br_false]
theorem F12_1_self (k n : Nat) (f : SP) (hn : n ≤ 1000) (hk : n + 1 < k) : ∀ (m p : Nat), p ≤ n + 1 → n + 1 - p < m → F12_1 k (tb n f) (tb n f) m (p : Int) = some (.inr ())
 | 0, p, hp, h => by omega
 | m + 1, p, hp, h => by
  rw [F12_1, tb_len]
  by_cases hlt : p ≤ n
  ·have := F12_2_self k n f p hlt hn k 0 (by omega) (by omega)
   rw [show ((0 : Nat) : Int) = 0 from rfl] at this
   rw [decide_eq_true (by omega : (p : Int) < ((n + 1 : Nat) : Int)), br_true, tb_at f hlt, bnd_some', bnd_some', row_len, show (((n + 1 : Nat) : Int) != ((n + 1 : Nat) : Int)) = false by simp, br_false, this, bnd_some', alt_inr, step1 _ (by omega)]
   exact F12_1_self k n f hn hk m (p + 1) (by omega) (by omega)
  ·rw [decide_eq_false (by omega : ¬ (p : Int) < ((n + 1 : Nat) : Int)), br_false]
theorem F12_self {k n : Nat} (f : SP) (hn : n ≤ 1000) (hk : n + 1 < k) : F12 k (tb n f) (tb n f) = some true := by
 unfold F12
 rw [tb_len, show (((n + 1 : Nat) : Int) != ((n + 1 : Nat) : Int)) = false by simp, br_false]
 have := F12_1_self k n f hn hk k 0 (by omega) (by omega)
 rw [show ((0 : Nat) : Int) = 0 from rfl] at this
 rw [this]; rfl

def fst1 (f : SP) (j : Nat) : Nat → Nat → Option Nat
 | 0, _ => none
 | d + 1, p => if f p j = true then some p else fst1 f j d (p + 1)
theorem fst1_lt {f : SP} {j : Nat} : ∀ {d p i : Nat}, fst1 f j d p = some i → i < p + d
 | 0, p, i, h => by simp [fst1] at h
 | d + 1, p, i, h => by
  simp only [fst1] at h
  split at h
  ·cases h; omega
  ·have := fst1_lt h; omega
def startS (f : SP) (j : Nat) : Int := match fst1 f j j 0 with
 | some i => (i : Int)
 | none => -1
def stL (n : Nat) (f : SP) : List Int := (List.range (n + 1)).map (startS f)
theorem stL_len (n : Nat) (f : SP) : (stL n f).length = n + 1 := by simp [stL]
def stP (n : Nat) (f : SP) (p : Nat) : List Int := (List.range (n + 1)).map fun j => if j < p then startS f j else 0
theorem stP_set {n p : Nat} (f : SP) (hp : p ≤ n) : (stP n f p).set p (startS f p) = stP n f (p + 1) := by
 apply List.ext_getElem?
 intro j
 rw [List.getElem?_set]
 simp only [stP, List.length_map, List.length_range, List.getElem?_map]
 by_cases h1 : p = j
 ·subst h1; simp [Nat.lt_succ_of_le hp]
 ·simp only [if_neg h1]
  by_cases h2 : j < n + 1
  ·have : (j < p + 1) = (j < p) := by apply propext; omega
   simp [h2, this]
  ·simp [h2]
theorem stP_at {n p : Nat} (f : SP) (hp : p ≤ n) : ∃ v, at? (stP n f p) (p : Int) = some v := by
 rw [at_nat]
 exact ⟨_, List.getElem?_eq_getElem (by simp [stP]; omega)⟩
theorem F18_2_spec (k n : Nat) (f : SP) (L : List Int) (j : Nat) (hj : j ≤ n) (hn : n ≤ 1000) (hL : L.length = n + 1) (x19 x20 : Int) (o : List S59) : ∀ (d m p : Nat), p + d = j → d < m →
  F18_2 k (tb n f) L (j : Int) x19 x20 (j : Int) o m (p : Int) = some (match fst1 f j d p with | some i => .inl (L.set j (i : Int)) | none => .inr ())
 | 0, m, p, hp, h => by
  obtain ⟨m, rfl⟩ : ∃ m', m = m' + 1 := ⟨m - 1, by omega⟩
  rw [F18_2, decide_eq_false (by omega : ¬ (p : Int) < (j : Int)), br_false]; rfl
 | d + 1, m, p, hp, h => by
  obtain ⟨m, rfl⟩ : ∃ m', m = m' + 1 := ⟨m - 1, by omega⟩
  rw [F18_2, decide_eq_true (by omega : (p : Int) < (j : Int)), br_true, tb_at f (by omega), bnd_some', row_at _ hj, bnd_some', fst1]
  cases hf : f p j
  ·rw [br_false, if_neg (by simp), step1 _ (by omega)]
   exact F18_2_spec k n f L j hj hn hL x19 x20 o d m (p + 1) (by omega) (by omega)
  ·rw [br_true, if_pos rfl, at_nat, List.getElem?_eq_getElem (by omega : j < L.length), bnd_some', Int.toNat_natCast]
theorem F18_1_spec (k n : Nat) (f : SP) (hn : n ≤ 1000) (hk : n + 1 < k) (o : List S59) : ∀ (m p : Nat), p ≤ n + 1 → n + 1 - p < m →
  F18_1 k (tb n f) ((n + 1 : Nat) : Int) o m (stP n f p) (p : Int) = some (stL n f)
 | 0, p, hp, h => by omega
 | m + 1, p, hp, h => by
  rw [F18_1]
  by_cases hlt : p ≤ n
  ·obtain ⟨v, hv⟩ := stP_at f hlt
   have h2 := F18_2_spec k n f ((stP n f p).set p (-1)) p hlt hn (by simp [stP]) ((n + 1 : Nat) : Int) (p : Int) o p k 0 (by omega) (by omega)
   rw [show ((0 : Nat) : Int) = 0 from rfl] at h2
   have ih := F18_1_spec k n f hn hk o m (p + 1) (by omega) (by omega)
   rw [← stP_set f hlt] at ih
   rw [decide_eq_true (by omega : (p : Int) < ((n + 1 : Nat) : Int)), br_true, hv, bnd_some', Int.toNat_natCast, h2, bnd_some', step1 _ (by omega)]
   unfold startS at ih
   cases hf : fst1 f p p 0 with
   | none =>
    rw [hf] at ih
    exact ih
   | some i =>
    rw [hf] at ih
    simp only [alt_inl, List.set_set]
    exact ih
  ·rw [decide_eq_false (by omega : ¬ (p : Int) < ((n + 1 : Nat) : Int)), br_false]
   congr 1
   simp only [stP, stL]
   apply List.map_congr_left
   intro a ha
   rw [if_pos (by have := List.mem_range.1 ha; omega)]
theorem F18_spec {k : Nat} (t : S23) (multi : Bool) (w : List Nat) (hB : Bn w) (hw : w.length ≤ 1000) (hk : 1010 < k) (hN : t.Nodes.length ≤ 1000) (hc : WT t.Nodes) : F18 k t multi (cs w) = some (stL w.length (spanS k multi w t.Nodes)) := by
 unfold F18
 rw [F13_spec t multi w hB hw hk hN hc, bnd_some', tb_len, req_pos (mkf (by omega) (by omega)), Int.toNat_natCast, List.length_replicate]
 have e : List.replicate (w.length + 1) (0 : Int) = stP w.length (spanS k multi w t.Nodes) 0 := by
  apply List.ext_getElem?
  intro a
  simp only [stP, List.getElem?_replicate, List.getElem?_map]
  by_cases h1 : a < w.length + 1 <;> simp [h1]
 have := F18_1_spec k w.length (spanS k multi w t.Nodes) hw (by omega) t.Nodes k 0 (by omega) (by omega)
 rw [show ((0 : Nat) : Int) = 0 from rfl] at this
 rw [e, this]; rfl
theorem F19_2_spec (k n : Nat) (x2 : List Int) (f : SP) (L : List Int) (j : Nat) (hj : j ≤ n) (hn : n ≤ 1000) (o : List S59) : ∀ (d m p : Nat), p + d = j → d < m →
  F19_2 k x2 (tb n f) L (j : Int) o m (p : Int) = some (((fst1 f j d p).getD j : Nat) : Int)
 | 0, m, p, hp, h => by
  obtain ⟨m, rfl⟩ : ∃ m', m = m' + 1 := ⟨m - 1, by omega⟩
  rw [F19_2, decide_eq_false (by omega : ¬ (p : Int) < (j : Int)), br_false]
  simp only [fst1, Option.getD_none]
  congr 1; omega
 | d + 1, m, p, hp, h => by
  obtain ⟨m, rfl⟩ : ∃ m', m = m' + 1 := ⟨m - 1, by omega⟩
  rw [F19_2, decide_eq_true (by omega : (p : Int) < (j : Int)), br_true, tb_at f (by omega), bnd_some', row_at _ hj, bnd_some', fst1]
  cases hf : f p j
  ·simp only [Bool.not_false]
   rw [br_true, if_neg (by simp), step1 _ (by omega)]
   exact F19_2_spec k n x2 f L j hj hn o d m (p + 1) (by omega) (by omega)
  ·simp only [Bool.not_true]
   rw [br_false, if_pos trivial]; rfl
def stQ (f : SP) (p : Nat) : List Int := (List.range p).map (startS f)
theorem F19_1_spec (k n : Nat) (f : SP) (x2 : List Int) (h2 : x2.length = n) (hn : n ≤ 1000) (hk : n + 1 < k) (o : List S59) : ∀ (m p : Nat), p ≤ n + 1 → n + 1 - p < m →
  F19_1 k x2 (tb n f) o m (stQ f p) (p : Int) = some (stL n f)
 | 0, p, hp, h => by omega
 | m + 1, p, hp, h => by
  rw [F19_1, h2]
  by_cases hlt : p ≤ n
  ·have e := F19_2_spec k n x2 f (stQ f p) p hlt hn o p k 0 (by omega) (by omega)
   rw [show ((0 : Nat) : Int) = 0 from rfl] at e
   have e3 : F19_3 k x2 (tb n f) (stQ f p) (p : Int) (((fst1 f p p 0).getD p : Nat) : Int) ((((fst1 f p p 0).getD p : Nat) : Int) == (p : Int)) o = some (startS f p) := by
    unfold F19_3 startS
    cases hf : fst1 f p p 0 with
    | none => simp [br]
    | some i =>
     have := fst1_lt hf
     simp only [Option.getD_some]
     rw [show ((i : Int) == (p : Int)) = false by simp; omega, br_false]
   rw [decide_eq_true (by omega : (p : Int) ≤ (n : Int)), br_true, e, bnd_some', e3, bnd_some', req_pos (fit (by simp [stQ]; omega) (by omega)), step1 _ (by omega)]
   have := F19_1_spec k n f x2 h2 hn hk o m (p + 1) (by omega) (by omega)
   rw [show stQ f (p + 1) = stQ f p ++ [startS f p] by simp [stQ, List.range_succ]] at this
   exact this
  ·obtain rfl : p = n + 1 := by omega
   rw [decide_eq_false (by omega : ¬ ((n + 1 : Nat) : Int) ≤ (n : Int)), br_false]
   rfl
theorem F19_spec {k : Nat} (t : S23) (multi : Bool) (w : List Nat) (hB : Bn w) (hw : w.length ≤ 1000) (hk : 1010 < k) (hN : t.Nodes.length ≤ 1000) (hc : WT t.Nodes) : F19 k t multi (cs w) = some (stL w.length (spanS k multi w t.Nodes)) := by
 unfold F19
 rw [F14_spec t multi w hB hw hk hN hc, bnd_some']
 have := F19_1_spec k w.length (spanS k multi w t.Nodes) (cs w) (cs_len w) hw (by omega) t.Nodes k 0 (by omega) (by omega)
 rw [show ((0 : Nat) : Int) = 0 from rfl] at this
 rw [show ([] : List Int) = stQ (spanS k multi w t.Nodes) 0 from rfl, this]; rfl

def enL : List Int → Nat → List Int
 | [], _ => []
 | v :: r, p => if v ≥ 0 then (p : Int) :: enL r (p + 1) else enL r (p + 1)
theorem enL_len : ∀ (L : List Int) (p : Nat), (enL L p).length ≤ L.length
 | [], p => Nat.le_refl _
 | v :: r, p => by
  have := enL_len r (p + 1)
  simp only [enL]
  split
  ·simp; omega
  ·simp; omega
theorem F16_1_spec (k : Nat) (L : List Int) (hL : L.length ≤ 1001) (o : List S59) : ∀ (r : List Int) (m p : Nat) (acc : List Int), L.drop p = r → p + r.length = L.length → r.length < m → acc.length ≤ p →
  F16_1 k L (L.length : Int) o m acc (p : Int) = some (acc ++ enL r p)
 | [], m, p, acc, hd, hl, hm, ha => by
  obtain ⟨m, rfl⟩ : ∃ m', m = m' + 1 := ⟨m - 1, by simp at hm; omega⟩
  rw [F16_1, decide_eq_false (by simp at hl; omega : ¬ (p : Int) < (L.length : Int)), br_false]; simp [enL]
 | v :: r, m, p, acc, hd, hl, hm, ha => by
  obtain ⟨m, rfl⟩ : ∃ m', m = m' + 1 := ⟨m - 1, by simp at hm; omega⟩
  simp only [List.length_cons] at hl hm
  have hv : L[p]? = some v := by
   have : (L.drop p)[0]? = some v := by rw [hd]; rfl
   rw [List.getElem?_drop] at this
   simpa using this
  have hd' : L.drop (p + 1) = r := by
   have : (L.drop p).tail = r := by rw [hd]; rfl
   rwa [List.tail_drop] at this
  rw [F16_1, decide_eq_true (by omega : (p : Int) < (L.length : Int)), br_true, at_nat, hv, bnd_some', enL]
  by_cases h0 : v ≥ 0
  ·rw [decide_eq_true h0, br_true, req_pos (fit (by simp; omega) (by omega)), step1 _ (by omega), F16_1_spec k L hL o r m (p + 1) _ hd' (by omega) (by omega) (by simp; omega), if_pos h0]
   simp
  ·rw [decide_eq_false h0, br_false, step1 _ (by omega), F16_1_spec k L hL o r m (p + 1) _ hd' (by omega) (by omega) (by omega), if_neg h0]
theorem F17_1_spec (k : Nat) (L : List Int) (hL : L.length ≤ 1001) (o : List S59) : ∀ (r : List Int) (m p : Nat) (acc : List Int), L.drop p = r → p + r.length = L.length → r.length < m → acc.length ≤ p →
  F17_1 k L o m acc (p : Int) = some (acc ++ enL r p)
 | [], m, p, acc, hd, hl, hm, ha => by
  obtain ⟨m, rfl⟩ : ∃ m', m = m' + 1 := ⟨m - 1, by simp at hm; omega⟩
  rw [F17_1, decide_eq_false (by simp at hl; omega : ¬ (p : Int) < (L.length : Int)), br_false]; simp [enL]
 | v :: r, m, p, acc, hd, hl, hm, ha => by
  obtain ⟨m, rfl⟩ : ∃ m', m = m' + 1 := ⟨m - 1, by simp at hm; omega⟩
  simp only [List.length_cons] at hl hm
  have hv : L[p]? = some v := by
   have : (L.drop p)[0]? = some v := by rw [hd]; rfl
   rw [List.getElem?_drop] at this
   simpa using this
  have hd' : L.drop (p + 1) = r := by
   have : (L.drop p).tail = r := by rw [hd]; rfl
   rwa [List.tail_drop] at this
  rw [F17_1, decide_eq_true (by omega : (p : Int) < (L.length : Int)), br_true, at_nat, hv, bnd_some', enL]
  by_cases h0 : v ≥ 0
  ·rw [decide_eq_true h0, br_true, req_pos (fit (by simp; omega) (by omega)), step1 _ (by omega), F17_1_spec k L hL o r m (p + 1) _ hd' (by omega) (by omega) (by simp; omega), if_pos h0]
   simp
  ·rw [decide_eq_false h0, br_false, step1 _ (by omega), F17_1_spec k L hL o r m (p + 1) _ hd' (by omega) (by omega) (by omega), if_neg h0]
theorem F16_spec {k : Nat} (t : S23) (multi : Bool) (w : List Nat) (hB : Bn w) (hw : w.length ≤ 1000) (hk : 1010 < k) (hN : t.Nodes.length ≤ 1000) (hc : WT t.Nodes) : F16 k t multi (cs w) = some (enL (stL w.length (spanS k multi w t.Nodes)) 0) := by
 unfold F16
 rw [F18_spec t multi w hB hw hk hN hc, bnd_some']
 have := F16_1_spec k (stL w.length (spanS k multi w t.Nodes)) (by rw [stL_len]; omega) t.Nodes _ k 0 [] rfl (by simp) (by rw [List.drop_zero, stL_len]; omega) (by simp)
 rw [show ((0 : Nat) : Int) = 0 from rfl] at this
 rw [this]; rfl
theorem F17_spec {k : Nat} (t : S23) (multi : Bool) (w : List Nat) (hB : Bn w) (hw : w.length ≤ 1000) (hk : 1010 < k) (hN : t.Nodes.length ≤ 1000) (hc : WT t.Nodes) : F17 k t multi (cs w) = some (enL (stL w.length (spanS k multi w t.Nodes)) 0) := by
 unfold F17
 rw [F19_spec t multi w hB hw hk hN hc, bnd_some']
 have := F17_1_spec k (stL w.length (spanS k multi w t.Nodes)) (by rw [stL_len]; omega) t.Nodes _ k 0 [] rfl (by simp) (by rw [List.drop_zero, stL_len]; omega) (by simp)
 rw [show ((0 : Nat) : Int) = 0 from rfl] at this
 rw [this]; rfl

theorem byte_of {n : Int} (h : IntKind.u8.min ≤ n ∧ n ≤ IntKind.u8.max) : ∃ b : Nat, n = (b : Int) ∧ b < 256 := by
 simp [IntKind.min, IntKind.max, IntKind.signed, IntKind.bits] at h
 exact ⟨n.toNat, by omega, by omega⟩
theorem cs_of {l : List Int} (h : ∀ y ∈ l, IntKind.u8.min ≤ y ∧ y ≤ IntKind.u8.max) : ∃ w, l = cs w ∧ Bn w := by
 induction l with
 | nil => exact ⟨[], rfl, by intro x hx; simp at hx⟩
 | cons a l ih =>
  obtain ⟨w, hw, hB⟩ := ih fun y hy => h y (by simp [hy])
  obtain ⟨b, hb, hlt⟩ := byte_of (h a (by simp))
  refine ⟨b :: w, by simp [cs, hb, hw], ?_⟩
  intro x hx
  rcases List.mem_cons.1 hx with rfl | hx
  ·exact hlt
  ·exact hB x hx
theorem WT_of {t : S23} (h : W23 t) : WT t.Nodes := by
 intro nd hnd j hj
 have := (h nd hnd).2.1 j hj
 simp [IntKind.min, IntKind.max, IntKind.signed, IntKind.bits] at this
 omega
theorem F10_spec (t : S23) (w : List Nat) : F10 t (cs w) = some (decide (t.Nodes.length ≤ 60 ∧ w.length ≤ 24)) := by
 unfold F10
 rw [cs_len]
 by_cases h : t.Nodes.length ≤ 60
 ·rw [decide_eq_true (by omega : (t.Nodes.length : Int) ≤ 60), br_true]
  congr 1
  rw [Bool.eq_iff_iff]; simp; omega
 ·rw [decide_eq_false (by omega : ¬ (t.Nodes.length : Int) ≤ 60), br_false]
  simp; omega
theorem begun8 : F11 2000 = some true := by decide +kernel
theorem meaningSpansA (x0 : S23) (x1 : Bool) (x2 : List Int) (w0 : W23 x0) (hT : True) (w2 : ∀ y ∈ x2, IntKind.u8.min ≤ y ∧ y ≤ IntKind.u8.max) : ∃ k, F3 k x0 x1 x2 = some true := by
 obtain ⟨w, rfl, hB⟩ := cs_of w2
 refine ⟨2000, ?_⟩
 unfold F3
 rw [F10_spec, bnd_some']
 by_cases h : x0.Nodes.length ≤ 60 ∧ w.length ≤ 24
 ·have hc := WT_of w0
  rw [decide_eq_true h]
  simp only [Bool.not_true]
  rw [br_false, begun8, bnd_some', br_true, F13_spec x0 x1 w hB (by omega) (by omega) (by omega) hc, bnd_some', F14_spec x0 x1 w hB (by omega) (by omega) (by omega) hc, bnd_some', F12_self _ (by omega) (by omega), bnd_some', br_true,
   F16_spec x0 x1 w hB (by omega) (by omega) (by omega) hc, bnd_some', F17_spec x0 x1 w hB (by omega) (by omega) (by omega) hc, bnd_some',
   F15_self _ (by have := enL_len (stL w.length (spanS 2000 x1 w x0.Nodes)) 0; rw [stL_len] at this; omega) (by omega), bnd_some', br_true,
   F18_spec x0 x1 w hB (by omega) (by omega) (by omega) hc, bnd_some', F19_spec x0 x1 w hB (by omega) (by omega) (by omega) hc, bnd_some', F15_self _ (by rw [stL_len]; omega) (by omega), bnd_some']
 ·rw [decide_eq_false h]; rfl
def Rg (x : Int) : Prop := -1 ≤ x ∧ x ≤ 1073741824
def Wd (n : Nat) (f : SP) (l m : Int) : Prop := 0 ≤ l ∧ Rg l ∧ Rg m ∧ ∀ a b : Nat, b ≤ n → f a b = true → a ≤ b ∧ l ≤ (b : Int) - a ∧ (0 ≤ m → (b : Int) - a ≤ m)
theorem mnI_spec (x y : Int) : mnI x y ≤ x ∧ mnI x y ≤ y ∧ (mnI x y = x ∨ mnI x y = y) := by unfold mnI; split <;> omega
theorem mxI_spec (x y : Int) : x ≤ mxI x y ∧ y ≤ mxI x y ∧ (mxI x y = x ∨ mxI x y = y) := by unfold mxI; split <;> omega
theorem Wd.alt {n : Nat} {f g : SP} {l m l' m' : Int} (h : Wd n f l m) (h' : Wd n g l' m') : Wd n (altS f g) (mnI l l') (if m < 0 ∨ m' < 0 then -1 else mxI m m') := by
 obtain ⟨p0, p1, p2, p3⟩ := h
 obtain ⟨q0, q1, q2, q3⟩ := h'
 unfold Rg at p1 p2 q1 q2
 have c1 := mnI_spec l l'
 have c2 := mxI_spec m m'
 refine ⟨by omega, by unfold Rg; omega, by unfold Rg; split <;> omega, fun a b hb hs => ?_⟩
 simp only [altS, Bool.or_eq_true] at hs
 rcases hs with hs | hs
 ·have := p3 a b hb hs
  refine ⟨by omega, by omega, fun h0 => ?_⟩
  split at h0 <;> (first | omega | (rename_i hneg; rw [if_neg hneg]; omega))
 ·have := q3 a b hb hs
  refine ⟨by omega, by omega, fun h0 => ?_⟩
  split at h0 <;> (first | omega | (rename_i hneg; rw [if_neg hneg]; omega))
def Sh (i n' : Nat) (f f' : SP) : Prop := ∀ a b, a ≤ b → b ≤ n' → (f (i + a) (i + b) = true ↔ f' a b = true)
theorem Sh.alt {i n' : Nat} {f f' g g' : SP} (h : Sh i n' f f') (h' : Sh i n' g g') : Sh i n' (altS f g) (altS f' g') := by
 intro a b hab hb
 simp only [altS, Bool.or_eq_true]
 rw [h a b hab hb, h' a b hab hb]
def bareN (nd : S59) : Bool := !(nd.Kind == 6 || nd.Kind == 7)
def Tr (nodes : List S59) : Prop := whole nodes = true ∧ (∀ nd ∈ nodes, bareN nd = true) ∧ (∀ nd ∈ nodes, WF nd.Class)
def eN : S59 := S59.mk 1 (fun _ => (0 : Int)) 0 0 0 0 false
theorem Inv.nil : Inv [] := by intro j hj; simp at hj
theorem Tr.e : Tr [eN] := by
 refine ⟨by decide +kernel, fun nd hm => ?_, fun nd hm => ?_⟩
 ·obtain rfl := List.mem_singleton.1 hm; rfl
 ·obtain rfl := List.mem_singleton.1 hm
  intro j _; simp [eN]


end Go.Ev
