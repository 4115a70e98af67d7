/- Plain laws of the printed functions of this seat. Conditions: none beyond each theorem's own. -/
import Derived.Test.YtjbefkechgnhbaaPa2
import Derived.Laws.Closers25
set_option linter.unusedVariables false
set_option linter.unusedSimpArgs false
namespace Go.Ev
theorem w64 {n : Int} (h0 : -9223372036854775808 ≤ n) (h1 : n < 9223372036854775808) : IntKind.i64.wrap n = n := by
 simp [IntKind.wrap, IntKind.bits, IntKind.signed]; split <;> omega
theorem at_nat {α : Type} (xs : List α) (i : Nat) : at? xs (i : Int) = xs[i]? := by simp [at?]
theorem br_true {α : Type} (a b : Option α) : br true a b = a := rfl
theorem br_false {α : Type} (a b : Option α) : br false a b = b := rfl
theorem bnd_some' {α β : Type} (a : α) (f : α → Option β) : bnd (some a) f = f a := rfl
theorem req_pos {α : Type} {p : Prop} [Decidable p] (h : p) (a : Option α) : req p a = a := by simp [req, h]
theorem alt_inr {α β γ : Type} (x : β) (f : α → Option γ) (g : β → Option γ) : alt (.inr x) f g = g x := rfl
theorem step1 (i : Nat) (h : i < 4611686018427387904) : IntKind.i64.wrap ((i : Int) + 1) = ((i + 1 : Nat) : Int) := by rw [w64 (by omega) (by omega)]; simp
theorem fit {n b : Nat} (h : n ≤ 100000) (hb : b ≤ 100) : fits n b := by
 have : n * b ≤ 100000 * 100 := Nat.mul_le_mul h hb
 exact ⟨by omega, by omega⟩
theorem mkf {n : Nat} {b : Nat} (h : n ≤ 100000) (hb : b ≤ 100) : mkFits (n : Int) (n : Int) b := by
 have : b * n ≤ 100 * 100000 := Nat.mul_le_mul hb h
 refine ⟨by omega, by omega, ?_, by omega⟩
 have : ((b * n : Nat) : Int) ≤ 10000000 := by omega
 rw [Int.natCast_mul] at this
 omega

abbrev SP := Nat → Nat → Bool
def row (n : Nat) (g : Nat → Bool) : List Bool := (List.range (n + 1)).map g
def tb (n : Nat) (f : SP) : List (List Bool) := (List.range (n + 1)).map fun i => row n (f i)
theorem tb_len (n : Nat) (f : SP) : (tb n f).length = n + 1 := by simp [tb]
theorem row_len (n : Nat) (g : Nat → Bool) : (row n g).length = n + 1 := by simp [row]
theorem row_at {n i : Nat} (g : Nat → Bool) (h : i ≤ n) : at? (row n g) (i : Int) = some (g i) := by
 rw [at_nat]; simp [row, Nat.lt_succ_of_le h]
theorem tb_at {n i : Nat} (f : SP) (h : i ≤ n) : at? (tb n f) (i : Int) = some (row n (f i)) := by
 rw [at_nat]; simp [tb, Nat.lt_succ_of_le h]
theorem row_set (n j : Nat) (g : Nat → Bool) (v : Bool) : (row n g).set j v = row n (fun b => if b = j then v else g b) := by
 apply List.ext_getElem?
 intro i
 rw [List.getElem?_set]
 simp only [row, List.length_map, List.length_range, List.getElem?_map]
 by_cases h : j = i
 ·subst h
  by_cases h1 : j < n + 1
  ·simp [h1]
  ·simp [h1]
 ·have h' : ¬ i = j := fun e => h e.symm
  simp only [if_neg h]
  by_cases h1 : i < n + 1
  ·simp [h1, h']
  ·simp [h1]
theorem tb_set (n i : Nat) (f : SP) (g : Nat → Bool) : (tb n f).set i (row n g) = tb n (fun a => if a = i then g else f a) := by
 apply List.ext_getElem?
 intro j
 rw [List.getElem?_set]
 simp only [tb, List.length_map, List.length_range, List.getElem?_map]
 by_cases h : i = j
 ·subst h
  by_cases h1 : i < n + 1
  ·simp [h1]
  ·simp [h1]
 ·have h' : ¬ j = i := fun e => h e.symm
  simp only [if_neg h]
  by_cases h1 : j < n + 1
  ·simp [h1, h']
  ·simp [h1]
theorem row_ext {n : Nat} {f g : Nat → Bool} (h : ∀ i, i ≤ n → f i = g i) : row n f = row n g := by
 simp only [row]
 apply List.map_congr_left
 intro i hi
 exact h i (Nat.le_of_lt_succ (List.mem_range.1 hi))
theorem tb_ext {n : Nat} {f g : SP} (h : ∀ i j, i ≤ n → j ≤ n → f i j = g i j) : tb n f = tb n g := by
 simp only [tb]
 apply List.map_congr_left
 intro i hi
 exact row_ext fun j hj => h i j (Nat.le_of_lt_succ (List.mem_range.1 hi)) hj
theorem row_rep (n : Nat) : List.replicate (n + 1) false = row n (fun _ => false) := by
 apply List.ext_getElem?
 intro i
 simp only [row, List.getElem?_replicate, List.getElem?_map]
 by_cases h1 : i < n + 1 <;> simp [h1]
theorem tb_lenm (n : Nat) (f : SP) (h : n ≤ 100000) : IntKind.i64.wrap (((tb n f).length : Int) - 1) = (n : Int) := by
 rw [tb_len, w64 (by omega) (by omega)]; omega
def put (f : SP) (i j : Nat) (v : Bool) : SP := fun a b => if a = i ∧ b = j then v else f a b
theorem tb_put (n i j : Nat) (f : SP) (v : Bool) : (tb n f).set i ((row n (f i)).set j v) = tb n (put f i j v) := by
 rw [row_set, tb_set]
 apply tb_ext
 intro a b _ _
 simp only [put]
 by_cases h : a = i
 ·subst h
  by_cases h2 : b = j <;> simp [h2]
 ·simp [h]

def part (n i : Nat) : List (List Bool) := (List.range (n + 1)).map fun a => if a < i then row n (fun _ => false) else []
theorem part_set {n i : Nat} (h : i ≤ n) : (part n i).set i (row n (fun _ => false)) = part n (i + 1) := by
 apply List.ext_getElem?
 intro j
 rw [List.getElem?_set]
 simp only [part, List.length_map, List.length_range, List.getElem?_map]
 by_cases h1 : i = j
 ·subst h1
  simp [Nat.lt_succ_of_le h]
 ·simp only [if_neg h1]
  by_cases h2 : j < n + 1
  ·have : (j < i + 1) = (j < i) := by apply propext; omega
   simp [h2, this]
  ·simp [h2]
theorem F37_1_spec (k n : Nat) (hn : n ≤ 1000) : ∀ (m i : Nat), i ≤ n + 1 → n + 1 - i < m → F37_1 k (n : Int) ((n + 1 : Nat) : Int) m (part n i) (i : Int) = some (tb n fun _ _ => false)
 | 0, i, hi, h => by omega
 | m + 1, i, hi, h => by
  rw [F37_1]
  by_cases hlt : i < n + 1
  ·rw [decide_eq_true (by omega : (i : Int) < ((n + 1 : Nat) : Int)), br_true, step1 n (by omega), req_pos (mkf (by omega) (by omega))]
   have e : at? (part n i) (i : Int) = some [] := by
    rw [at_nat]; simp [part, hlt]
   rw [e, bnd_some']
   simp only [Int.toNat_natCast]
   rw [row_rep, part_set (by omega), step1 i (by omega)]
   exact F37_1_spec k n hn m (i + 1) (by omega) (by omega)
  ·rw [decide_eq_false (by omega : ¬ (i : Int) < ((n + 1 : Nat) : Int)), br_false]
   congr 1
   simp only [part, tb]
   apply List.map_congr_left
   intro a ha
   rw [if_pos (by have := List.mem_range.1 ha; omega)]
theorem F37_spec {k n : Nat} (hn : n ≤ 1000) (hk : n + 1 < k) : F37 k (n : Int) = some (tb n fun _ _ => false) := by
 unfold F37
 rw [step1 n (by omega), req_pos (mkf (by omega) (by omega))]
 simp only [Int.toNat_natCast, List.length_replicate]
 have e : List.replicate (n + 1) ([] : List Bool) = part n 0 := by
  apply List.ext_getElem?
  intro i
  simp only [part, List.getElem?_replicate, List.getElem?_map]
  by_cases h1 : i < n + 1 <;> simp [h1]
 rw [e]
 have := F37_1_spec k n hn k 0 (by omega) (by omega)
 rw [show ((0 : Nat) : Int) = 0 from rfl] at this
 rw [this]; rfl
def seqS (n : Nat) (f g : SP) : SP := fun a b => (List.range (n + 1)).any fun q => decide (a ≤ q) && f a q && decide (q ≤ b) && g q b
def seqF (n : Nat) (f g : SP) (p : Nat) (a b : Nat) : Bool := (List.range (n + 1)).any fun q => decide (p ≤ q) && f a q && decide (q ≤ b) && g q b
theorem seqF_end {n p : Nat} (f g : SP) (a b : Nat) (h : n < p) : seqF n f g p a b = false := by
 simp only [seqF, List.any_eq_false, List.mem_range]
 intro q hq
 have : ¬ p ≤ q := by omega
 simp [this]
theorem seqF_step {n p : Nat} (f g : SP) (a b : Nat) (h : p ≤ n) : seqF n f g p a b = ((f a p && decide (p ≤ b) && g p b) || seqF n f g (p + 1) a b) := by
 rw [Bool.eq_iff_iff]
 simp only [seqF, List.any_eq_true, List.mem_range, Bool.or_eq_true, Bool.and_eq_true, decide_eq_true_eq]
 constructor
 ·rintro ⟨q, hq, ⟨⟨h1, h2⟩, h3⟩, h4⟩
  by_cases e : q = p
  ·subst e; exact .inl ⟨⟨h2, h3⟩, h4⟩
  ·exact .inr ⟨q, hq, ⟨⟨by omega, h2⟩, h3⟩, h4⟩
 ·rintro (⟨⟨h2, h3⟩, h4⟩ | ⟨q, hq, ⟨⟨h1, h2⟩, h3⟩, h4⟩)
  ·exact ⟨p, by omega, ⟨⟨Nat.le_refl _, h2⟩, h3⟩, h4⟩
  ·exact ⟨q, hq, ⟨⟨by omega, h2⟩, h3⟩, h4⟩
theorem seqF_self (n : Nat) (f g : SP) (a b : Nat) : seqF n f g a a b = seqS n f g a b := rfl

def upd3 (g : SP) (i q p : Nat) (u : SP) : SP := fun a b => if a = i ∧ p ≤ b then u a b || g q b else u a b
theorem upd3_put {n i q p : Nat} (g u : SP) : ∀ a b, a ≤ n → b ≤ n → upd3 g i q (p + 1) (put u i p (u i p || g q p)) a b = upd3 g i q p u a b := by
 intro a b _ _
 simp only [upd3, put]
 by_cases h : a = i
 ·subst h
  by_cases h1 : b = p
  ·subst h1
   have : ¬ (b + 1 ≤ b) := by omega
   simp [this]
  ·by_cases h2 : p ≤ b
   ·have : p + 1 ≤ b := by omega
    simp [h1, h2, this]
   ·have : ¬ p + 1 ≤ b := by omega
    simp [h1, h2, this]
 ·simp [h]
theorem upd3_end {n i q p : Nat} (g u : SP) (h : n < p) : ∀ a b, a ≤ n → b ≤ n → upd3 g i q p u a b = u a b := by
 intro a b _ hb
 simp only [upd3]
 rw [if_neg (by omega)]

theorem F61_3_spec (k n : Nat) (f g : SP) (i q : Nat) (hi : i ≤ n) (hq : q ≤ n) (hn : n ≤ 1000) : ∀ (m p : Nat) (u : SP), p ≤ n + 1 → n + 1 - p < m →
  F61_3 k (tb n f) (tb n g) (i : Int) (q : Int) m (tb n u) (p : Int) = some (tb n (upd3 g i q p u))
 | 0, p, u, hp, h => by omega
 | m + 1, p, u, hp, h => by
  rw [F61_3, tb_len]
  by_cases hlt : p ≤ n
  ·rw [decide_eq_true (by omega : (p : Int) < ((n + 1 : Nat) : Int)), br_true, tb_at u hi, bnd_some', row_at _ hlt, bnd_some']
   simp only [Int.toNat_natCast, tb_put, step1 p (by omega : p < 4611686018427387904)]
   have key : F61_3 k (tb n f) (tb n g) (i : Int) (q : Int) m (tb n (put u i p (u i p || g q p))) ((p + 1 : Nat) : Int) = some (tb n (upd3 g i q p u)) := by
    rw [F61_3_spec k n f g i q hi hq hn m (p + 1) _ (by omega) (by omega)]
    congr 1
    exact tb_ext fun a b ha hb => upd3_put g u a b ha hb
   cases hu : u i p
   ·rw [br_false, tb_at g hq, bnd_some', row_at _ hlt, bnd_some']
    rw [hu, Bool.false_or] at key
    exact key
   ·rw [br_true]
    rw [hu, Bool.true_or] at key
    exact key
  ·rw [decide_eq_false (by omega : ¬ (p : Int) < ((n + 1 : Nat) : Int)), br_false]
   congr 1
   exact tb_ext fun a b ha hb => (upd3_end g u (by omega) a b ha hb).symm

def upd2 (n : Nat) (f g : SP) (i p : Nat) (u : SP) : SP := fun a b => if a = i then u a b || seqF n f g p a b else u a b
theorem upd2_step {n i p : Nat} (f g u : SP) (hp : p ≤ n) (ht : f i p = true) : ∀ a b, upd2 n f g i (p + 1) (upd3 g i p p u) a b = upd2 n f g i p u a b := by
 intro a b
 simp only [upd2, upd3]
 by_cases h : a = i
 ·subst h
  rw [if_pos rfl, if_pos rfl, seqF_step f g a b hp, ht]
  by_cases h2 : p ≤ b
  ·rw [if_pos ⟨rfl, h2⟩]; simp [h2, Bool.or_assoc]
  ·rw [if_neg (by simp [h2])]; simp [h2]
 ·simp [h]
theorem upd2_skip {n i p : Nat} (f g u : SP) (hp : p ≤ n) (ht : f i p = false) : ∀ a b, upd2 n f g i (p + 1) u a b = upd2 n f g i p u a b := by
 intro a b
 simp only [upd2]
 by_cases h : a = i
 ·subst h
  rw [if_pos rfl, if_pos rfl, seqF_step f g a b hp, ht]; simp
 ·simp [h]
theorem upd2_end {n i p : Nat} (f g u : SP) (hp : n < p) : ∀ a b, upd2 n f g i p u a b = u a b := by
 intro a b
 simp only [upd2, seqF_end f g a b hp]
 simp

theorem F61_2_spec (k n : Nat) (f g : SP) (i : Nat) (hi : i ≤ n) (hn : n ≤ 1000) (hk : n + 1 < k) : ∀ (m p : Nat) (u : SP), p ≤ n + 1 → n + 1 - p < m →
  F61_2 k (tb n f) (tb n g) (i : Int) m (tb n u) (p : Int) = some (tb n (upd2 n f g i p u), ((i + 1 : Nat) : Int))
 | 0, p, u, hp, h => by omega
 | m + 1, p, u, hp, h => by
  rw [F61_2, tb_len]
  by_cases hlt : p ≤ n
  ·rw [show ((p : Int) == ((n + 1 : Nat) : Int)) = false by simp; omega, br_false, tb_at f hi, bnd_some', row_at _ hlt, bnd_some', step1 p (by omega)]
   cases ht : f i p
   ·rw [br_false, F61_2_spec k n f g i hi hn hk m (p + 1) u (by omega) (by omega)]
    rw [tb_ext fun a b _ _ => upd2_skip f g u hlt ht a b]
   ·rw [br_true, F61_3_spec k n f g i p hi hlt hn k p u (by omega) (by omega), bnd_some', F61_2_spec k n f g i hi hn hk m (p + 1) _ (by omega) (by omega)]
    rw [tb_ext fun a b _ _ => upd2_step f g u hlt ht a b]
  ·obtain rfl : p = n + 1 := by omega
   rw [show (((n + 1 : Nat) : Int) == ((n + 1 : Nat) : Int)) = true by simp, br_true, step1 i (by omega), tb_ext fun a b _ _ => upd2_end f g u (Nat.lt_succ_self n) a b]

def upd1 (n : Nat) (f g : SP) (p : Nat) (u : SP) : SP := fun a b => if p ≤ a then u a b || seqS n f g a b else u a b
theorem upd1_step {n p : Nat} (f g u : SP) : ∀ a b, upd1 n f g (p + 1) (upd2 n f g p p u) a b = upd1 n f g p u a b := by
 intro a b
 simp only [upd1, upd2]
 by_cases h : a = p
 ·subst h
  rw [if_neg (by omega), if_pos rfl, if_pos (Nat.le_refl _), seqF_self]
 ·by_cases h2 : p ≤ a
  ·rw [if_pos (by omega), if_neg h, if_pos h2]
  ·rw [if_neg (by omega), if_neg h, if_neg h2]
theorem upd1_end {n p : Nat} (f g u : SP) (hp : n < p) : ∀ a b, a ≤ n → upd1 n f g p u a b = u a b := by
 intro a b ha
 simp only [upd1]
 rw [if_neg (by omega)]
theorem upd1_new (n : Nat) (f g : SP) : upd1 n f g 0 (fun _ _ => false) = seqS n f g := by
 funext a b
 simp [upd1]

theorem F61_1_spec (k n : Nat) (f g : SP) (hn : n ≤ 1000) (hk : n + 1 < k) : ∀ (m p : Nat) (u : SP), p ≤ n + 1 → n + 1 - p < m →
  F61_1 k (tb n f) (tb n g) m (tb n u) (p : Int) = some (tb n (upd1 n f g p u))
 | 0, p, u, hp, h => by omega
 | m + 1, p, u, hp, h => by
  rw [F61_1, tb_len]
  by_cases hlt : p ≤ n
  ·rw [show ((p : Int) == ((n + 1 : Nat) : Int)) = false by simp; omega, br_false, F61_2_spec k n f g p hlt hn hk k p u (by omega) (by omega), bnd_some',
    F61_1_spec k n f g hn hk m (p + 1) _ (by omega) (by omega), tb_ext fun a b _ _ => upd1_step f g u a b]
  ·obtain rfl : p = n + 1 := by omega
   rw [show (((n + 1 : Nat) : Int) == ((n + 1 : Nat) : Int)) = true by simp, br_true, tb_ext fun a b ha _ => upd1_end f g u (Nat.lt_succ_self n) a b ha]
theorem F61_spec {k n : Nat} (f g : SP) (hn : n ≤ 1000) (hk : n + 1 < k) : F61 k (tb n f) (tb n g) = some (tb n (seqS n f g)) := by
 unfold F61
 rw [tb_lenm n f (by omega), F37_spec hn hk, bnd_some']
 have := F61_1_spec k n f g hn hk k 0 (fun _ _ => false) (by omega) (by omega)
 rw [show ((0 : Nat) : Int) = 0 from rfl] at this
 rw [this, upd1_new]; rfl

def altS (f g : SP) : SP := fun a b => f a b || g a b
def updR (h : SP) (i p : Nat) (u : SP) : SP := fun a b => if a = i ∧ p ≤ b then h a b else u a b
theorem updR_put {i p : Nat} (h u : SP) : ∀ a b, updR h i (p + 1) (put u i p (h i p)) a b = updR h i p u a b := by
 intro a b
 simp only [updR, put]
 by_cases e : a = i
 ·subst e
  by_cases h1 : b = p
  ·subst h1
   have : ¬ (b + 1 ≤ b) := by omega
   simp [this]
  ·by_cases h2 : p ≤ b
   ·have : p + 1 ≤ b := by omega
    simp [h1, h2, this]
   ·have : ¬ p + 1 ≤ b := by omega
    simp [h1, h2, this]
 ·simp [e]
theorem updR_end {n i p : Nat} (h u : SP) (hp : n < p) : ∀ a b, b ≤ n → updR h i p u a b = u a b := by
 intro a b hb
 simp only [updR]
 rw [if_neg (by omega)]
def updQ (h : SP) (p : Nat) (u : SP) : SP := fun a b => if p ≤ a then h a b else u a b
theorem updQ_step {p : Nat} (h u : SP) : ∀ a b, updQ h (p + 1) (updR h p 0 u) a b = updQ h p u a b := by
 intro a b
 simp only [updQ, updR]
 by_cases e : a = p
 ·subst e
  rw [if_neg (by omega), if_pos ⟨rfl, Nat.zero_le _⟩, if_pos (Nat.le_refl _)]
 ·by_cases h2 : p ≤ a
  ·rw [if_pos (by omega), if_pos h2]
  ·rw [if_neg (by omega), if_neg (by simp [e]), if_neg h2]
theorem updQ_end {n p : Nat} (h u : SP) (hp : n < p) : ∀ a b, a ≤ n → updQ h p u a b = u a b := by
 intro a b ha
 simp only [updQ]
 rw [if_neg (by omega)]
theorem updQ_new (h u : SP) : updQ h 0 u = h := by
 funext a b; simp [updQ]

theorem F62_2_spec (k n : Nat) (f g : SP) (i : Nat) (hi : i ≤ n) (hn : n ≤ 1000) (x13 : Int) : ∀ (m p : Nat) (u : SP), p ≤ n + 1 → n + 1 - p < m →
  F62_2 k (tb n f) (tb n g) (i : Int) x13 (i : Int) ((n + 1 : Nat) : Int) m (tb n u) (p : Int) = some (tb n (updR (altS f g) i p u))
 | 0, p, u, hp, h => by omega
 | m + 1, p, u, hp, h => by
  rw [F62_2]
  by_cases hlt : p ≤ n
  ·rw [decide_eq_true (by omega : (p : Int) < ((n + 1 : Nat) : Int)), br_true, tb_at u hi, bnd_some', tb_at f hi, bnd_some', row_at _ hlt, bnd_some', tb_at g hi, bnd_some', row_at _ hlt, bnd_some', row_at _ hlt, bnd_some', bnd_some']
   simp only [Int.toNat_natCast, tb_put, step1 p (by omega : p < 4611686018427387904)]
   have key : F62_2 k (tb n f) (tb n g) (i : Int) x13 (i : Int) ((n + 1 : Nat) : Int) m (tb n (put u i p (altS f g i p))) ((p + 1 : Nat) : Int) = some (tb n (updR (altS f g) i p u)) := by
    rw [F62_2_spec k n f g i hi hn x13 m (p + 1) _ (by omega) (by omega)]
    congr 1
    exact tb_ext fun a b _ _ => updR_put _ u a b
   cases hu : f i p
   ·rw [br_false]
    rw [show altS f g i p = g i p by simp [altS, hu]] at key
    exact key
   ·rw [br_true]
    rw [show altS f g i p = true by simp [altS, hu]] at key
    exact key
  ·rw [decide_eq_false (by omega : ¬ (p : Int) < ((n + 1 : Nat) : Int)), br_false]
   congr 1
   exact tb_ext fun a b _ hb => (updR_end _ u (by omega) a b hb).symm
theorem F62_1_spec (k n : Nat) (f g : SP) (hn : n ≤ 1000) (hk : n + 1 < k) : ∀ (m p : Nat) (u : SP), p ≤ n + 1 → n + 1 - p < m →
  F62_1 k (tb n f) (tb n g) ((n + 1 : Nat) : Int) m (tb n u) (p : Int) = some (tb n (updQ (altS f g) p u))
 | 0, p, u, hp, h => by omega
 | m + 1, p, u, hp, h => by
  rw [F62_1, tb_len]
  by_cases hlt : p ≤ n
  ·rw [decide_eq_true (by omega : (p : Int) < ((n + 1 : Nat) : Int)), br_true, step1 p (by omega)]
   have := F62_2_spec k n f g p hlt hn ((n + 1 : Nat) : Int) k 0 u (by omega) (by omega)
   rw [show ((0 : Nat) : Int) = 0 from rfl] at this
   rw [this, bnd_some', F62_1_spec k n f g hn hk m (p + 1) _ (by omega) (by omega), tb_ext fun a b _ _ => updQ_step _ u a b]
  ·rw [decide_eq_false (by omega : ¬ (p : Int) < ((n + 1 : Nat) : Int)), br_false]
   congr 1
   exact tb_ext fun a b ha _ => (updQ_end _ u (by omega) a b ha).symm
theorem F62_spec {k n : Nat} (f g : SP) (hn : n ≤ 1000) (hk : n + 1 < k) : F62 k (tb n f) (tb n g) = some (tb n (altS f g)) := by
 unfold F62
 rw [tb_lenm n f (by omega), F37_spec hn hk, bnd_some']
 have := F62_1_spec k n f g hn hk k 0 (fun _ _ => false) (by omega) (by omega)
 rw [show ((0 : Nat) : Int) = 0 from rfl] at this
 rw [tb_len, this, updQ_new]; rfl
theorem wu64 {n : Int} (h0 : 0 ≤ n) (h1 : n < 18446744073709551616) : IntKind.u64.wrap n = n := by
 simp [IntKind.wrap, IntKind.bits, IntKind.signed]; omega
theorem byteNums : ∀ n : Nat, n < 256 → shrI .u8 (n : Int) 6 = ((n / 64 : Nat) : Int) ∧ bitsI .and .u8 (n : Int) 63 = ((n % 64 : Nat) : Int) ∧ IntKind.u8.wrap (Int.tdiv (n : Int) 64) = ((n / 64 : Nat) : Int) ∧ Int.tmod (n : Int) 64 = ((n % 64 : Nat) : Int) ∧
  shrI .i64 (n : Int) 6 = ((n / 64 : Nat) : Int) ∧ bitsI .and .i64 (n : Int) 63 = ((n % 64 : Nat) : Int) := by decide +kernel
theorem and64 (m n : Nat) (hm : m < 18446744073709551616) (hn : n < 18446744073709551616) : bitsI .and .u64 (m : Int) (n : Int) = ((m &&& n : Nat) : Int) := by
 have hlt : m &&& n < 2 ^ 64 := Nat.and_lt_two_pow _ (by simpa using hn)
 show IntKind.u64.wrap (((BitVec.ofInt 64 (m : Int) &&& BitVec.ofInt 64 (n : Int)).toNat : Nat) : Int) = _
 simp only [BitVec.ofInt_natCast, BitVec.toNat_and, BitVec.toNat_ofNat]
 rw [Nat.mod_eq_of_lt (by simpa using hm), Nat.mod_eq_of_lt (by simpa using hn)]
 exact wu64 (by omega) (by simp at hlt; omega)
theorem shr64 (m s : Nat) (hs : s ≤ 64) : shrI .u64 (m : Int) (s : Int) = ((m >>> s : Nat) : Int) := by
 simp only [shrI, IntKind.bits, Int.toNat_natCast, Nat.min_eq_left hs, Nat.shiftRight_eq_div_pow]
 rw [Int.fdiv_eq_ediv_of_nonneg _ (by have : (0:Int) < 2 ^ s := Int.pow_pos (by omega); omega)]
 simp

def BT (a : Nat → Int) (i : Nat) : Bool := (a (i / 64)).toNat.testBit (i % 64)
def WF (a : Nat → Int) : Prop := ∀ j, j < 4 → 0 ≤ a j ∧ a j < 18446744073709551616
def Is (a : Nat → Int) (f : Nat → Bool) : Prop := WF a ∧ ∀ i, i < 256 → BT a i = f i
def nf (a : Nat → Int) (j : Nat) : Nat := (a j).toNat
theorem WF.nat {a : Nat → Int} (h : WF a) {j : Nat} (hj : j < 4) : a j = (nf a j : Int) ∧ nf a j < 18446744073709551616 := by
 have := h j hj; unfold nf; omega
theorem Is.self {a : Nat → Int} (h : WF a) : Is a (BT a) := ⟨h, fun _ _ => rfl⟩
theorem testBit_and1 (m s : Nat) : (m >>> s &&& 1 = 1) ↔ m.testBit s = true := by
 simp [Nat.testBit, Nat.and_comm]

theorem F57_spec {a : Nat → Int} {f : Nat → Bool} (h : Is a f) {b : Nat} (hb : b < 256) : F57 a (b : Int) = some (f b) := by
 obtain ⟨n1, n2⟩ := h.1.nat (j := b / 64) (by omega)
 obtain ⟨e1, e2, _⟩ := byteNums b hb
 unfold F57
 rw [e1, e2, req_pos (by unfold arrOk; omega), req_pos (by omega), Int.toNat_natCast, n1, shr64 _ _ (by omega)]
 have hlt : nf a (b / 64) >>> (b % 64) < 18446744073709551616 := Nat.lt_of_le_of_lt (Nat.shiftRight_le _ _) n2
 have e3 : bitsI .and .u64 ((nf a (b / 64) >>> (b % 64) : Nat) : Int) 1 = ((nf a (b / 64) >>> (b % 64) &&& 1 : Nat) : Int) := and64 _ 1 hlt (by omega)
 rw [e3, ← h.2 b hb]
 congr 1
 unfold BT
 have := testBit_and1 (nf a (b / 64)) (b % 64)
 unfold nf at this ⊢
 cases hc : (a (b / 64)).toNat.testBit (b % 64)
 ·rw [hc] at this
  simp only [Bool.false_eq_true, iff_false] at this
  simp only [beq_eq_false_iff_ne, ne_eq]
  omega
 ·rw [hc] at this
  have := this.2 rfl
  rw [this]; rfl
def cs (w : List Nat) : List Int := w.map fun (x : Nat) => (x : Int)
def Bn (w : List Nat) : Prop := ∀ x ∈ w, x < 256
theorem cs_len (w : List Nat) : (cs w).length = w.length := by simp [cs]
theorem cs_at {w : List Nat} {i : Nat} (h : i < w.length) : at? (cs w) (i : Int) = some ((w.getD i 0 : Nat) : Int) := by
 rw [at_nat]; simp [cs, List.getElem?_eq_getElem h, List.getD_eq_getElem?_getD]
theorem Bn.getD {w : List Nat} (h : Bn w) (i : Nat) : w.getD i 0 < 256 := by
 rw [List.getD_eq_getElem?_getD]
 cases e : w[i]? with
 | none => simp
 | some x => exact h x (List.mem_of_getElem? e)

def preT (p : Nat) (L : SP) : SP := fun a b => decide (a < p) && L a b
theorem pre_put {n p c : Nat} {L : SP} (h : ∀ b, b ≤ n → b ≠ c → L p b = false) : ∀ a b, a ≤ n → b ≤ n → put (preT p L) p c (L p c) a b = preT (p + 1) L a b := by
 intro a b _ hb
 simp only [put, preT]
 by_cases e : a = p
 ·subst e
  by_cases e2 : b = c
  ·subst e2; simp
  ·simp [e2, h b hb e2]
 ·have : (a < p + 1) = (a < p) := by apply propext; omega
  simp [e, this]
theorem pre_zero (L : SP) : preT 0 L = fun _ _ => false := by funext a b; simp [preT]
theorem pre_end {n p : Nat} {L : SP} (hp : n < p) : ∀ a b, a ≤ n → preT p L a b = L a b := by
 intro a b ha
 simp only [preT]
 rw [decide_eq_true (by omega)]; simp

def diagS (h : Nat → Bool) : SP := fun a b => decide (a = b) && h a
theorem diag_off {h : Nat → Bool} {n p : Nat} : ∀ b, b ≤ n → b ≠ p → diagS h p b = false := by
 intro b _ hb
 simp only [diagS]
 rw [decide_eq_false (fun e => hb e.symm)]; rfl
theorem diag_on {h : Nat → Bool} {p : Nat} : diagS h p p = h p := by simp [diagS]
abbrev idS : SP := diagS fun _ => true
theorem diag_step (n p : Nat) (H : Nat → Bool) : tb n (put (preT p (diagS H)) p p (H p)) = tb n (preT (p + 1) (diagS H)) := by
 have := tb_ext (pre_put (n := n) (L := diagS H) (p := p) (c := p) diag_off)
 rwa [show diagS H p p = H p from diag_on] at this
theorem id_step (n p : Nat) : tb n (put (preT p idS) p p true) = tb n (preT (p + 1) idS) := diag_step n p fun _ => true
def begH (multi : Bool) (w : List Nat) (i : Nat) : Bool := decide (i = 0) || (multi && decide (w.getD (i - 1) 0 = 10))
def endH (multi : Bool) (w : List Nat) (i : Nat) : Bool := decide (i = w.length) || (multi && decide (w.getD i 0 = 10))
theorem F59_spec (multi : Bool) (w : List Nat) (p : Nat) (hp : p ≤ w.length) (hw : w.length ≤ 1000) : F59 (S53.mk (cs w) multi) (p : Int) = some (begH multi w p) := by
 unfold F59 begH
 by_cases h : p = 0
 ·subst h; rfl
 ·rw [show ((p : Int) == 0) = false by simp; omega, br_false, decide_eq_false h]
  cases multi
  ·rfl
  ·rw [br_true, show IntKind.i64.wrap ((p : Int) - 1) = ((p - 1 : Nat) : Int) by rw [w64 (by omega) (by omega)]; omega, cs_at (by omega), bnd_some']
   simp only [Bool.false_or, Bool.true_and]
   congr 1
   rw [Bool.eq_iff_iff]; simp; omega
theorem F60_spec (multi : Bool) (w : List Nat) (p : Nat) (hp : p ≤ w.length) (hw : w.length ≤ 1000) : F60 (S53.mk (cs w) multi) (p : Int) = some (endH multi w p) := by
 unfold F60 endH
 simp only [cs_len]
 by_cases h : p = w.length
 ·subst h; simp [br]
 ·rw [show ((p : Int) == (w.length : Int)) = false by simp; omega, br_false, decide_eq_false h]
  cases multi
  ·rfl
  ·rw [br_true, cs_at (by omega), bnd_some']
   simp only [Bool.false_or, Bool.true_and]
   congr 1
   rw [Bool.eq_iff_iff]; simp; omega

theorem F58s71_1_spec (k n : Nat)   (hn : n ≤ 1000) : ∀ (m p : Nat), p ≤ n + 1 → n + 1 - p < m →
  F58s71_1 k  ((n + 1 : Nat) : Int) m (tb n (preT p (diagS (fun _ => true)))) (p : Int) = some (tb n (diagS (fun _ => true)))
 | 0, p, hp, h => by omega
 | m + 1, p, hp, h => by
  rw [F58s71_1]
  by_cases hlt : p ≤ n
  ·rw [decide_eq_true (by omega : (p : Int) < ((n + 1 : Nat) : Int)), br_true, tb_at _ hlt, bnd_some', show F71 (p : Int) = some true from rfl, bnd_some', row_at _ hlt, bnd_some']
   simp only [Int.toNat_natCast, tb_put, step1 p (by omega : p < 4611686018427387904)]
   rw [show tb n (put (preT p (diagS (fun _ => true))) p p true) = tb n (preT (p + 1) (diagS (fun _ => true))) from id_step n p]
   exact F58s71_1_spec k n   hn m (p + 1) (by omega) (by omega)
  ·rw [decide_eq_false (by omega : ¬ (p : Int) < ((n + 1 : Nat) : Int)), br_false]
   congr 1
   exact tb_ext fun a b ha _ => pre_end (by omega) a b ha
theorem F58s71_spec {k n : Nat}   (hn : n ≤ 1000) (hk : n + 1 < k) : F58s71 k (n : Int)  = some (tb n (diagS (fun _ => true))) := by
 unfold F58s71
 rw [F37_spec hn hk, bnd_some']
 have := F58s71_1_spec k n   hn k 0 (by omega) (by omega)
 rw [show ((0 : Nat) : Int) = 0 from rfl, pre_zero] at this
 rw [tb_len, this]; rfl

theorem F58s64_1_spec (k n : Nat)   (hn : n ≤ 1000) : ∀ (m p : Nat), p ≤ n + 1 → n + 1 - p < m →
  F58s64_1 k  ((n + 1 : Nat) : Int) m (tb n (preT p (diagS (fun _ => true)))) (p : Int) = some (tb n (diagS (fun _ => true)))
 | 0, p, hp, h => by omega
 | m + 1, p, hp, h => by
  rw [F58s64_1]
  by_cases hlt : p ≤ n
  ·rw [decide_eq_true (by omega : (p : Int) < ((n + 1 : Nat) : Int)), br_true, tb_at _ hlt, bnd_some', show F64 (p : Int) = some true from rfl, bnd_some', row_at _ hlt, bnd_some']
   simp only [Int.toNat_natCast, tb_put, step1 p (by omega : p < 4611686018427387904)]
   rw [show tb n (put (preT p (diagS (fun _ => true))) p p true) = tb n (preT (p + 1) (diagS (fun _ => true))) from id_step n p]
   exact F58s64_1_spec k n   hn m (p + 1) (by omega) (by omega)
  ·rw [decide_eq_false (by omega : ¬ (p : Int) < ((n + 1 : Nat) : Int)), br_false]
   congr 1
   exact tb_ext fun a b ha _ => pre_end (by omega) a b ha
theorem F58s64_spec {k n : Nat}   (hn : n ≤ 1000) (hk : n + 1 < k) : F58s64 k (n : Int)  = some (tb n (diagS (fun _ => true))) := by
 unfold F58s64
 rw [F37_spec hn hk, bnd_some']
 have := F58s64_1_spec k n   hn k 0 (by omega) (by omega)
 rw [show ((0 : Nat) : Int) = 0 from rfl, pre_zero] at this
 rw [tb_len, this]; rfl

theorem F58s59_1_spec (k n : Nat) (multi : Bool) (w : List Nat) (hw : w.length = n) (hn : n ≤ 1000) : ∀ (m p : Nat), p ≤ n + 1 → n + 1 - p < m →
  F58s59_1 k (S53.mk (cs w) multi) ((n + 1 : Nat) : Int) m (tb n (preT p (diagS (begH multi w)))) (p : Int) = some (tb n (diagS (begH multi w)))
 | 0, p, hp, h => by omega
 | m + 1, p, hp, h => by
  rw [F58s59_1]
  by_cases hlt : p ≤ n
  ·rw [decide_eq_true (by omega : (p : Int) < ((n + 1 : Nat) : Int)), br_true, tb_at _ hlt, bnd_some', F59_spec multi w p (by omega) (by omega), bnd_some', row_at _ hlt, bnd_some']
   simp only [Int.toNat_natCast, tb_put, step1 p (by omega : p < 4611686018427387904)]
   rw [show tb n (put (preT p (diagS (begH multi w))) p p (begH multi w p)) = tb n (preT (p + 1) (diagS (begH multi w))) from diag_step n p _]
   exact F58s59_1_spec k n multi w hw hn m (p + 1) (by omega) (by omega)
  ·rw [decide_eq_false (by omega : ¬ (p : Int) < ((n + 1 : Nat) : Int)), br_false]
   congr 1
   exact tb_ext fun a b ha _ => pre_end (by omega) a b ha
theorem F58s59_spec {k n : Nat} (multi : Bool) (w : List Nat) (hw : w.length = n) (hn : n ≤ 1000) (hk : n + 1 < k) : F58s59 k (n : Int) (S53.mk (cs w) multi) = some (tb n (diagS (begH multi w))) := by
 unfold F58s59
 rw [F37_spec hn hk, bnd_some']
 have := F58s59_1_spec k n multi w hw hn k 0 (by omega) (by omega)
 rw [show ((0 : Nat) : Int) = 0 from rfl, pre_zero] at this
 rw [tb_len, this]; rfl

theorem F58s60_1_spec (k n : Nat) (multi : Bool) (w : List Nat) (hw : w.length = n) (hn : n ≤ 1000) : ∀ (m p : Nat), p ≤ n + 1 → n + 1 - p < m →
  F58s60_1 k (S53.mk (cs w) multi) ((n + 1 : Nat) : Int) m (tb n (preT p (diagS (endH multi w)))) (p : Int) = some (tb n (diagS (endH multi w)))
 | 0, p, hp, h => by omega
 | m + 1, p, hp, h => by
  rw [F58s60_1]
  by_cases hlt : p ≤ n
  ·rw [decide_eq_true (by omega : (p : Int) < ((n + 1 : Nat) : Int)), br_true, tb_at _ hlt, bnd_some', F60_spec multi w p (by omega) (by omega), bnd_some', row_at _ hlt, bnd_some']
   simp only [Int.toNat_natCast, tb_put, step1 p (by omega : p < 4611686018427387904)]
   rw [show tb n (put (preT p (diagS (endH multi w))) p p (endH multi w p)) = tb n (preT (p + 1) (diagS (endH multi w))) from diag_step n p _]
   exact F58s60_1_spec k n multi w hw hn m (p + 1) (by omega) (by omega)
  ·rw [decide_eq_false (by omega : ¬ (p : Int) < ((n + 1 : Nat) : Int)), br_false]
   congr 1
   exact tb_ext fun a b ha _ => pre_end (by omega) a b ha
theorem F58s60_spec {k n : Nat} (multi : Bool) (w : List Nat) (hw : w.length = n) (hn : n ≤ 1000) (hk : n + 1 < k) : F58s60 k (n : Int) (S53.mk (cs w) multi) = some (tb n (diagS (endH multi w))) := by
 unfold F58s60
 rw [F37_spec hn hk, bnd_some']
 have := F58s60_1_spec k n multi w hw hn k 0 (by omega) (by omega)
 rw [show ((0 : Nat) : Int) = 0 from rfl, pre_zero] at this
 rw [tb_len, this]; rfl

def letS (c : Nat → Int) (w : List Nat) : SP := fun a b => decide (b = a + 1) && decide (a < w.length) && BT c (w.getD a 0)
theorem let_off {c : Nat → Int} {w : List Nat} {n p : Nat} : ∀ b, b ≤ n → b ≠ p + 1 → letS c w p b = false := by
 intro b _ hb
 simp only [letS]
 rw [decide_eq_false hb]; rfl
theorem let_on {c : Nat → Int} {w : List Nat} {p : Nat} (h : p < w.length) : letS c w p (p + 1) = BT c (w.getD p 0) := by simp [letS, h]
theorem let_last {c : Nat → Int} {w : List Nat} {p b : Nat} (h : w.length ≤ p) : letS c w p b = false := by
 simp only [letS]
 rw [decide_eq_false (p := p < w.length) (by omega)]; simp
theorem F38_1_spec (k : Nat) (c : Nat → Int) (hc : WF c) (w : List Nat) (hB : Bn w) (hw : w.length ≤ 1000) (o0 : List Int) (o1 : Bool) (a0 a1 a2 a3 a4 : Int) (a5 : Bool) : ∀ (m p : Nat), p ≤ w.length → w.length - p < m →
  F38_1 k (cs w) (w.length : Int) o0 o1 a0 c a1 a2 a3 a4 a5 m (tb w.length (preT p (letS c w))) (p : Int) = some (tb w.length (letS c w))
 | 0, p, hp, h => by omega
 | m + 1, p, hp, h => by
  rw [F38_1]
  by_cases hlt : p < w.length
  ·rw [decide_eq_true (by omega : (p : Int) < (w.length : Int)), br_true, cs_at hlt, bnd_some', tb_at _ (by omega), bnd_some', F57_spec (Is.self hc) (hB.getD p), bnd_some', step1 p (by omega), row_at _ (by omega), bnd_some']
   simp only [Int.toNat_natCast, tb_put]
   rw [← let_on hlt, tb_ext (pre_put (n := w.length) (L := letS c w) let_off)]
   exact F38_1_spec k c hc w hB hw o0 o1 a0 a1 a2 a3 a4 a5 m (p + 1) (by omega) (by omega)
  ·rw [decide_eq_false (by omega : ¬ (p : Int) < (w.length : Int)), br_false]
   obtain rfl : p = w.length := by omega
   congr 1
   refine tb_ext fun a b ha _ => ?_
   by_cases e : a < w.length
   ·simp [preT, e]
   ·rw [let_last (by omega)]; simp [preT, let_last (show w.length ≤ a by omega)]

def leafS (kind : Int) (c : Nat → Int) (multi : Bool) (w : List Nat) : SP :=
 if kind = 1 then idS else if kind = 2 then letS c w else if kind = 6 then diagS (begH multi w) else if kind = 7 then diagS (endH multi w) else fun _ _ => false
def powB (n : Nat) : Nat → SP → Nat → SP → SP
 | 0, _, _, acc => acc
 | j + 1, f, m, acc => if m = 0 then acc else powB n j (seqS n f f) (m / 2) (if m % 2 = 1 then seqS n acc f else acc)
theorem and1 (m : Nat) (h : m < 1000000) : bitsI .and .i64 (m : Int) 1 = ((m % 2 : Nat) : Int) := by
 have hlt : m &&& 1 < 2 ^ 64 := Nat.and_lt_two_pow _ (by omega)
 show IntKind.i64.wrap (((BitVec.ofInt 64 (m : Int) &&& BitVec.ofInt 64 ((1 : Nat) : Int)).toNat : Nat) : Int) = _
 simp only [BitVec.ofInt_natCast, BitVec.toNat_and, BitVec.toNat_ofNat]
 rw [Nat.mod_eq_of_lt (by omega), Nat.mod_eq_of_lt (by omega), Nat.and_one_is_mod]
 exact w64 (by omega) (by omega)
theorem shr1 (m : Nat) (h : m < 1000000) : shrI .i64 (m : Int) 1 = ((m / 2 : Nat) : Int) := by
 simp only [shrI, IntKind.bits]
 rw [Int.fdiv_eq_ediv_of_nonneg _ (by simp)]
 simp
theorem F63_1_spec (k n : Nat) (hn : n ≤ 1000) (hk : n + 1 < k) : ∀ (j m : Nat) (f acc : SP), m < 2 ^ j → m < 1000000 → F63_1 k (j + 1) (tb n f) (m : Int) (tb n acc) = some (tb n (powB n j f m acc))
 | 0, m, f, acc, h, h2 => by
  obtain rfl : m = 0 := by simpa using h
  rw [F63_1]; simp [br, powB]
 | j + 1, m, f, acc, h, h2 => by
  rw [F63_1]
  by_cases h0 : m = 0
  ·subst h0; simp [br, powB]
  ·have hj : m / 2 < 2 ^ j := by rw [Nat.pow_succ] at h; omega
   rw [decide_eq_true (by omega : (m : Int) > 0), br_true, and1 m h2, shr1 m h2, F61_spec f f hn hk, powB, if_neg h0]
   by_cases h1 : m % 2 = 1
   ·rw [show (((m % 2 : Nat) : Int) == 1) = true by simp [h1], br_true, F61_spec acc f hn hk, bnd_some', bnd_some', if_pos h1]
    exact F63_1_spec k n hn hk j (m / 2) _ _ hj (by omega)
   ·rw [show (((m % 2 : Nat) : Int) == 1) = false by simp; omega, br_false, bnd_some', if_neg h1]
    exact F63_1_spec k n hn hk j (m / 2) _ _ hj (by omega)
def powS (n k : Nat) (f : SP) (m : Nat) : SP := powB n (k - 1) f m idS
theorem two20 {k : Nat} (hk : 1010 < k) : 1000000 ≤ 2 ^ (k - 1) := Nat.le_trans (by decide : 1000000 ≤ 2 ^ 20) (Nat.pow_le_pow_right (by decide) (by omega))
theorem F63_spec {k n : Nat} (f : SP) (m : Nat) (hn : n ≤ 1000) (hk : 1010 < k) (hm : m < 1000000) : F63 k (tb n f) (m : Int) = some (tb n (powS n k f m)) := by
 unfold F63 powS
 rw [tb_lenm n f (by omega), F58s71_spec hn (by omega), bnd_some']
 have := F63_1_spec k n hn (by omega) (k - 1) m f idS (Nat.lt_of_lt_of_le hm (two20 hk)) hm
 rw [show k - 1 + 1 = k by omega] at this
 rw [this]; rfl
theorem pow_zero (n k : Nat) (f : SP) : powS n k f 0 = idS := by
 unfold powS
 cases k - 1 <;> simp [powB]
def zeroC (c : Nat → Int) : Bool := (List.range 4).all fun j => c j == 0
def good (nd : S59) : Bool :=
 decide (1 ≤ nd.Kind) && decide (nd.Kind ≤ 7) && (nd.Kind == 2 || zeroC nd.Class) && (nd.A == 0 || nd.Kind == 3 || nd.Kind == 4 || nd.Kind == 5) && (nd.B == 0 || nd.Kind == 3 || nd.Kind == 4) &&
 (nd.Kind == 5 || (nd.Least == 0 && nd.Most == 0 && nd.Lazy == false)) &&
 (nd.Kind != 5 || (decide (0 ≤ nd.Least) && decide (nd.Least ≤ 1000) && (nd.Most == -1 || (decide (nd.Least ≤ nd.Most) && decide (nd.Most ≤ 1000)))))
def partsI (K : Int) : Int := if K = 1 ∨ K = 2 ∨ K = 6 ∨ K = 7 then 0 else if K = 5 then 1 else if K = 3 ∨ K = 4 then 2 else -1
theorem F74_spec (k : Nat) (K : Int) : F74 k K = some (partsI K) := by
 unfold partsI
 by_cases h1 : K = 1
 ·subst h1; rfl
 by_cases h2 : K = 2
 ·subst h2; rfl
 by_cases h3 : K = 3
 ·subst h3; rfl
 by_cases h4 : K = 4
 ·subst h4; rfl
 by_cases h5 : K = 5
 ·subst h5; rfl
 by_cases h6 : K = 6
 ·subst h6; rfl
 by_cases h7 : K = 7
 ·subst h7; rfl
 ·simp [F74, F74_1, F74_2, F74_3, br, bnd, h1, h2, h3, h4, h5, h6, h7, show (K == 1) = false by simpa using h1, show (K == 2) = false by simpa using h2, show (K == 3) = false by simpa using h3, show (K == 4) = false by simpa using h4,
   show (K == 5) = false by simpa using h5, show (K == 6) = false by simpa using h6, show (K == 7) = false by simpa using h7]
theorem kinds {K : Int} (h : 1 ≤ K) (h' : K ≤ 7) : K = 1 ∨ K = 2 ∨ K = 3 ∨ K = 4 ∨ K = 5 ∨ K = 6 ∨ K = 7 := by omega
theorem F73_spec (k : Nat) (nd : S59) : F73 k nd = some (good nd) := by
 obtain ⟨K, C, A, B, l, m, z⟩ := nd
 by_cases hk : 1 ≤ K ∧ K ≤ 7
 ·rcases kinds hk.1 hk.2 with rfl | rfl | rfl | rfl | rfl | rfl | rfl
  ·simp [F73, F73_1, F73_2, F74_spec, partsI, br, bnd, alt, good, zeroC]
   rw [Bool.eq_iff_iff]; simp; grind
  ·simp [F73, F73_1, F73_2, F74_spec, partsI, br, bnd, alt, good, zeroC]
   rw [Bool.eq_iff_iff]; simp; grind
  ·simp [F73, F73_1, F73_2, F74_spec, partsI, br, bnd, alt, good, zeroC]
   rw [Bool.eq_iff_iff]; simp; grind
  ·simp [F73, F73_1, F73_2, F74_spec, partsI, br, bnd, alt, good, zeroC]
   rw [Bool.eq_iff_iff]; simp; grind
  ·by_cases h1 : l < 0
   ·simp [F73, F73_1, F73_2, br, bnd, alt, good, h1, show ¬ 0 ≤ l by omega]
   by_cases h2 : l > 1000
   ·simp [F73, F73_1, F73_2, br, bnd, alt, good, h1, h2, show ¬ l ≤ 1000 by omega]
   by_cases h3 : m = -1
   ·subst h3
    simp [F73, F73_1, F73_2, F74_spec, partsI, br, bnd, alt, good, zeroC, h1, h2, show l ≤ 1000 by omega, show 0 ≤ l by omega]
   by_cases h4 : m < l
   ·simp [F73, F73_1, F73_2, br, bnd, alt, good, h1, h2, h3, show (m != -1) = true by simpa using h3, h4, show ¬ l ≤ m by omega]
   by_cases h5 : m > 1000
   ·simp [F73, F73_1, F73_2, br, bnd, alt, good, h1, h2, h3, show (m != -1) = true by simpa using h3, h4, h5, show ¬ m ≤ 1000 by omega]
   ·simp [F73, F73_1, F73_2, F74_spec, partsI, br, bnd, alt, good, zeroC, h1, h2, h3, show (m != -1) = true by simpa using h3, h4, h5, show l ≤ 1000 by omega, show 0 ≤ l by omega, show l ≤ m by omega, show m ≤ 1000 by omega]
  ·simp [F73, F73_1, F73_2, F74_spec, partsI, br, bnd, alt, good, zeroC]
   rw [Bool.eq_iff_iff]; simp; grind
  ·simp [F73, F73_1, F73_2, F74_spec, partsI, br, bnd, alt, good, zeroC]
   rw [Bool.eq_iff_iff]; simp; grind
 ·have hp : partsI K = -1 := by
   unfold partsI
   rw [if_neg (by omega), if_neg (by omega), if_neg (by omega)]
  have hg : good ⟨K, C, A, B, l, m, z⟩ = false := by
   by_cases h : 1 ≤ K
   ·simp [good, h, show ¬ K ≤ 7 by omega]
   ·simp [good, h]
  rw [hg]
  simp [F73, F73_1, F73_2, F74_spec, hp, br, bnd, alt, show ¬ K = 2 by omega, show ¬ K = 5 by omega, show (K == 2) = false by simp; omega, show (K == 5) = false by simp; omega]
def nodeSize (acc : List Nat) (nd : S59) : Option Nat :=
 if nd.Kind = 5 then (if 1 ≤ acc.length ∧ nd.A = (acc.length : Int) - 1 then some (1 + acc.getD (acc.length - 1) 0) else none)
 else if nd.Kind = 3 ∨ nd.Kind = 4 then
  (if 1 ≤ acc.length ∧ nd.B = (acc.length : Int) - 1 ∧ nd.A = (acc.length : Int) - 1 - ((acc.getD (acc.length - 1) 0 : Nat) : Int) ∧ 0 ≤ nd.A then some (1 + acc.getD (acc.length - 1) 0 + acc.getD nd.A.toNat 0) else none)
 else some 1
def szL : List S59 → List Nat → Option (List Nat)
 | [], acc => some acc
 | nd :: r, acc => if good nd = true then (match nodeSize acc nd with
  | some s => szL r (acc ++ [s])
  | none => none) else none
def Inv (acc : List Nat) : Prop := ∀ j, j < acc.length → 1 ≤ acc.getD j 0 ∧ acc.getD j 0 ≤ j + 1
theorem getD_app {acc : List Nat} {s j : Nat} (h : j < acc.length) : (acc ++ [s]).getD j 0 = acc.getD j 0 := by
 simp [List.getD_eq_getElem?_getD, List.getElem?_append_left h]
theorem getD_last {acc : List Nat} {s : Nat} : (acc ++ [s]).getD acc.length 0 = s := by
 simp [List.getD_eq_getElem?_getD]
theorem Inv.app {acc : List Nat} {s : Nat} (h : Inv acc) (h1 : 1 ≤ s) (h2 : s ≤ acc.length + 1) : Inv (acc ++ [s]) := by
 intro j hj
 rw [List.length_append] at hj
 simp at hj
 by_cases e : j < acc.length
 ·rw [getD_app e]; exact h j e
 ·obtain rfl : j = acc.length := by omega
  rw [getD_last]; exact ⟨h1, h2⟩
theorem nodeSize_inv {acc : List Nat} {nd : S59} {s : Nat} (h : Inv acc) (hs : nodeSize acc nd = some s) : 1 ≤ s ∧ s ≤ acc.length + 1 := by
 unfold nodeSize at hs
 split at hs
 ·split at hs
  ·rename_i c
   have := h (acc.length - 1) (by omega)
   cases hs; omega
  ·cases hs
 ·split at hs
  ·split at hs
   ·rename_i c
    have h1 := h (acc.length - 1) (by omega)
    have h2 := h nd.A.toNat (by omega)
    cases hs; omega
   ·cases hs
  ·cases hs; omega
def szR : Option (List Nat) → Bool ⊕ List Int
 | some L => .inr (cs L)
 | none => .inl false
theorem szL_len : ∀ {r : List S59} {acc L : List Nat}, szL r acc = some L → L.length = acc.length + r.length
 | [], acc, L, h => by simp [szL] at h; subst h; simp
 | nd :: r, acc, L, h => by
  simp only [szL] at h
  split at h
  ·split at h
   ·have := szL_len h
    rw [this, List.length_append]; simp; omega
   ·cases h
  ·cases h
def stR (acc : List Nat) (N : Nat) : List Int := cs acc ++ List.replicate (N - acc.length) 0
theorem stR_set {acc : List Nat} {N : Nat} (h : acc.length < N) (s : Nat) : (stR acc N).set acc.length (s : Int) = stR (acc ++ [s]) N := by
 unfold stR
 rw [List.set_append_right _ _ (by rw [cs_len]; exact Nat.le_refl _), cs_len, Nat.sub_self]
 obtain ⟨q, hq⟩ : ∃ q, N - acc.length = q + 1 := ⟨N - acc.length - 1, by omega⟩
 rw [hq, List.replicate_succ, List.set_cons_zero]
 have : N - (acc ++ [s]).length = q := by simp; omega
 rw [this]
 simp [cs]
theorem stR_at {acc : List Nat} {N j : Nat} (h : j < acc.length) : at? (stR acc N) (j : Int) = some ((acc.getD j 0 : Nat) : Int) := by
 rw [at_nat]
 unfold stR
 rw [List.getElem?_append_left (by rw [cs_len]; exact h), ← at_nat, cs_at h]
theorem stR_cur {acc : List Nat} {N : Nat} (h : acc.length < N) : at? (stR acc N) (acc.length : Int) = some 0 := by
 rw [at_nat]
 unfold stR
 rw [List.getElem?_append_right (by rw [cs_len]; exact Nat.le_refl _), cs_len, Nat.sub_self, List.getElem?_replicate, if_pos (by omega)]
theorem stR_set1 {acc : List Nat} {N : Nat} (h : acc.length < N) : (stR acc N).set acc.length 1 = stR (acc ++ [1]) N := stR_set h 1
theorem stR_cur1 {acc : List Nat} {N : Nat} : at? (stR (acc ++ [1]) N) (acc.length : Int) = some 1 := by
 rw [stR_at (by simp), getD_last]; rfl
theorem stR_reset {acc : List Nat} {N : Nat} (h : acc.length < N) (s : Nat) : (stR (acc ++ [1]) N).set acc.length (s : Int) = stR (acc ++ [s]) N := by
 rw [← stR_set1 h, List.set_set, stR_set h]
theorem good_kind {nd : S59} (h : good nd = true) : 1 ≤ nd.Kind ∧ nd.Kind ≤ 7 := by
 unfold good at h
 simp only [Bool.and_eq_true, decide_eq_true_eq] at h
 exact h.1.1.1.1.1
theorem wm1 (i : Nat) (h : i ≤ 1000) : IntKind.i64.wrap ((i : Int) - 1) = (i : Int) - 1 := w64 (by omega) (by omega)

theorem F70_1_spec (k : Nat) (nodes : List S59) (o : List S59) (hN : nodes.length ≤ 1000) : ∀ (r : List S59) (m : Nat) (acc : List Nat), nodes.drop acc.length = r → acc.length + r.length = nodes.length → r.length < m → Inv acc →
  F70_1 k nodes (nodes.length : Int) o m (stR acc nodes.length) (acc.length : Int) = some (szR (szL r acc))
 | [], m, acc, hd, hl, hm, hi => by
  obtain ⟨m, rfl⟩ : ∃ m', m = m' + 1 := ⟨m - 1, by simp at hm; omega⟩
  rw [F70_1, decide_eq_false (by simp at hl; omega : ¬ (acc.length : Int) < (nodes.length : Int)), br_false]
  simp only [szL, szR]
  have : nodes.length - acc.length = 0 := by simp at hl; omega
  simp [stR, this]
 | nd :: r, m, acc, hd, hl, hm, hi => by
  obtain ⟨m, rfl⟩ : ∃ m', m = m' + 1 := ⟨m - 1, by simp at hm; omega⟩
  simp only [List.length_cons] at hl hm
  have hlt : acc.length < nodes.length := by omega
  have hnd : at? nodes (acc.length : Int) = some nd := by
   rw [at_nat]
   have : (nodes.drop acc.length)[0]? = some nd := by rw [hd]; rfl
   rw [List.getElem?_drop] at this
   simpa using this
  have hd' : nodes.drop (acc.length + 1) = r := by
   have : (nodes.drop acc.length).tail = r := by rw [hd]; rfl
   rwa [List.tail_drop] at this
  have rec_ : ∀ s : Nat, 1 ≤ s → s ≤ acc.length + 1 → F70_1 k nodes (nodes.length : Int) o m (stR (acc ++ [s]) nodes.length) (IntKind.i64.wrap ((acc.length : Int) + 1)) = some (szR (szL r (acc ++ [s]))) := by
   intro s h1 h2
   rw [step1 _ (by omega)]
   have := F70_1_spec k nodes o hN r m (acc ++ [s]) (by rw [List.length_append]; exact hd') (by rw [List.length_append]; simp; omega) (by omega) (hi.app h1 h2)
   rw [List.length_append] at this
   exact this
  rw [F70_1, decide_eq_true (by omega : (acc.length : Int) < (nodes.length : Int)), br_true, hnd, bnd_some', F73_spec, bnd_some', szL]
  cases hg : good nd
  ·simp only [Bool.not_false]; rw [br_true, if_neg (by simp)]; rfl
  ·rw [if_pos rfl]
   simp only [Bool.not_true]
   rw [br_false, stR_cur hlt, bnd_some', F74_spec, bnd_some']
   simp only [Int.toNat_natCast]
   rw [stR_set1 hlt, stR_cur1, bnd_some']
   obtain ⟨g1, g2⟩ := good_kind hg
   by_cases k5 : nd.Kind = 5
   ·rw [show (partsI nd.Kind == 1) = true by simp [partsI, k5], br_true, wm1 _ (by omega)]
    unfold nodeSize
    rw [if_pos k5]
    by_cases ha : nd.A = (acc.length : Int) - 1
    ·rw [show (nd.A != (acc.length : Int) - 1) = false by simp [ha], br_false]
     by_cases h1 : 1 ≤ acc.length
     ·have hv := hi (acc.length - 1) (by omega)
      rw [decide_eq_false (by omega : ¬ (acc.length : Int) - 1 < 0), br_false, if_pos ⟨h1, ha⟩, show (acc.length : Int) - 1 = ((acc.length - 1 : Nat) : Int) by omega, stR_at (by simp; omega), getD_app (by omega), bnd_some']
      rw [show IntKind.i64.wrap (1 + ((acc.getD (acc.length - 1) 0 : Nat) : Int)) = ((1 + acc.getD (acc.length - 1) 0 : Nat) : Int) by rw [w64 (by omega) (by omega)]; omega, stR_reset hlt]
      exact rec_ _ (by omega) (by omega)
     ·rw [decide_eq_true (by omega : (acc.length : Int) - 1 < 0), br_true, if_neg (fun c => h1 c.1)]; rfl
    ·rw [show (nd.A != (acc.length : Int) - 1) = true by simp [ha], br_true, if_neg (fun c => ha c.2)]; rfl
   rw [show (partsI nd.Kind == 1) = false by unfold partsI; simp [k5]; split <;> (try split) <;> simp, br_false]
   by_cases k34 : nd.Kind = 3 ∨ nd.Kind = 4
   ·rw [show (partsI nd.Kind == 2) = true by rcases k34 with h | h <;> simp [partsI, h], br_true, wm1 _ (by omega)]
    unfold nodeSize
    rw [if_neg k5, if_pos k34]
    by_cases hb : nd.B = (acc.length : Int) - 1
    ·rw [show (nd.B != (acc.length : Int) - 1) = false by simp [hb], br_false]
     by_cases h1 : 1 ≤ acc.length
     ·have hv := hi (acc.length - 1) (by omega)
      rw [decide_eq_false (by omega : ¬ (acc.length : Int) - 1 < 0), br_false]
      rw [show at? (stR (acc ++ [1]) nodes.length) ((acc.length : Int) - 1) = some ((acc.getD (acc.length - 1) 0 : Nat) : Int) by rw [show (acc.length : Int) - 1 = ((acc.length - 1 : Nat) : Int) by omega, stR_at (by simp; omega), getD_app (by omega)], bnd_some']
      rw [show IntKind.i64.wrap ((acc.length : Int) - 1 - ((acc.getD (acc.length - 1) 0 : Nat) : Int)) = (acc.length : Int) - 1 - ((acc.getD (acc.length - 1) 0 : Nat) : Int) from w64 (by omega) (by omega)]
      by_cases ha : nd.A = (acc.length : Int) - 1 - ((acc.getD (acc.length - 1) 0 : Nat) : Int)
      ·rw [show (nd.A != (acc.length : Int) - 1 - ((acc.getD (acc.length - 1) 0 : Nat) : Int)) = false by rw [← ha]; simp, br_false]
       by_cases h0 : 0 ≤ nd.A
       ·have hw := hi nd.A.toNat (by omega)
        rw [decide_eq_false (by omega : ¬ nd.A < 0), br_false, if_pos ⟨h1, hb, ha, h0⟩]
        rw [show at? (stR (acc ++ [1]) nodes.length) nd.A = some ((acc.getD nd.A.toNat 0 : Nat) : Int) by rw [show nd.A = ((nd.A.toNat : Nat) : Int) by omega, stR_at (by simp; omega), getD_app (by omega), Int.toNat_natCast], bnd_some', bnd_some']
        rw [show IntKind.i64.wrap (((acc.getD (acc.length - 1) 0 : Nat) : Int) + ((acc.getD nd.A.toNat 0 : Nat) : Int)) = ((acc.getD (acc.length - 1) 0 + acc.getD nd.A.toNat 0 : Nat) : Int) by rw [w64 (by omega) (by omega)]; omega]
        rw [show IntKind.i64.wrap (1 + ((acc.getD (acc.length - 1) 0 + acc.getD nd.A.toNat 0 : Nat) : Int)) = ((1 + acc.getD (acc.length - 1) 0 + acc.getD nd.A.toNat 0 : Nat) : Int) by rw [w64 (by omega) (by omega)]; omega, stR_reset hlt]
        exact rec_ _ (by omega) (by omega)
       ·rw [decide_eq_true (by omega : nd.A < 0), br_true, if_neg (fun c => h0 c.2.2.2)]; rfl
      ·rw [show (nd.A != (acc.length : Int) - 1 - ((acc.getD (acc.length - 1) 0 : Nat) : Int)) = true from bne_iff_ne.2 ha, br_true, if_neg (fun c => ha c.2.2.1)]; rfl
     ·rw [decide_eq_true (by omega : (acc.length : Int) - 1 < 0), br_true, if_neg (fun c => h1 c.1)]; rfl
    ·rw [show (nd.B != (acc.length : Int) - 1) = true by simp [hb], br_true, if_neg (fun c => hb c.2.1)]; rfl
   ·rw [show (partsI nd.Kind == 2) = false by unfold partsI; simp [k5, k34]; split <;> simp, br_false]
    unfold nodeSize
    rw [if_neg k5, if_neg k34]
    exact rec_ 1 (by omega) (by omega)

theorem F72_spec (k : Nat) (nd : S59) : F72 k nd = some (
  if nd.Kind = 2 then ⟨nd.Kind, nd.Class, 0, 0, 0, 0, false⟩ else if nd.Kind = 3 ∨ nd.Kind = 4 then ⟨nd.Kind, fun _ => 0, nd.A, nd.B, 0, 0, false⟩
  else if nd.Kind = 5 then ⟨nd.Kind, fun _ => 0, nd.A, 0, nd.Least, nd.Most, nd.Lazy⟩ else ⟨nd.Kind, fun _ => 0, 0, 0, 0, 0, false⟩) := by
 obtain ⟨K, C, A, B, l, m, z⟩ := nd
 by_cases h2 : K = 2
 ·subst h2; simp [F72, br]
 by_cases h3 : K = 3
 ·subst h3; simp [F72, F72_1, br, bnd]
 by_cases h4 : K = 4
 ·subst h4; simp [F72, F72_1, br, bnd]
 by_cases h5 : K = 5
 ·subst h5; simp [F72, F72_1, br, bnd]
 ·simp [F72, F72_1, br, bnd, h2, h3, h4, h5, show (K == 2) = false by simpa using h2, show (K == 3) = false by simpa using h3, show (K == 4) = false by simpa using h4, show (K == 5) = false by simpa using h5]

theorem bare_good (nd : S59) (h : 1 ≤ nd.Kind) (h' : nd.Kind ≤ 7) (v4 : S59) (hv : v4 = (
  if nd.Kind = 2 then ⟨nd.Kind, nd.Class, 0, 0, 0, 0, false⟩ else if nd.Kind = 3 ∨ nd.Kind = 4 then ⟨nd.Kind, fun _ => 0, nd.A, nd.B, 0, 0, false⟩
  else if nd.Kind = 5 then ⟨nd.Kind, fun _ => 0, nd.A, 0, nd.Least, nd.Most, nd.Lazy⟩ else ⟨nd.Kind, fun _ => 0, 0, 0, 0, 0, false⟩)) :
  good nd = ((((nd.Kind : Int) == v4.Kind) && (((List.range 4).all fun j => (((nd.Class j) : Int) == (v4.Class j))) && (((nd.A : Int) == v4.A) && (((nd.B : Int) == v4.B) && (((nd.Least : Int) == v4.Least) && (((nd.Most : Int) == v4.Most) && ((nd.Lazy == v4.Lazy) && true))))))) &&
   (nd.Kind != 5 || (decide (0 ≤ nd.Least) && decide (nd.Least ≤ 1000) && (nd.Most == -1 || (decide (nd.Least ≤ nd.Most) && decide (nd.Most ≤ 1000)))))) := by
 obtain ⟨K, C, A, B, l, m, z⟩ := nd
 rcases kinds h h' with e | e | e | e | e | e | e <;> (simp only at e; subst e; subst hv; simp [good, zeroC]; try (rw [Bool.eq_iff_iff]; simp; grind))
def bareEq (nd v4 : S59) : Bool := ((nd.Kind : Int) == v4.Kind) && (((List.range 4).all fun j => (((nd.Class j) : Int) == (v4.Class j))) && (((nd.A : Int) == v4.A) && (((nd.B : Int) == v4.B) && (((nd.Least : Int) == v4.Least) && (((nd.Most : Int) == v4.Most) && ((nd.Lazy == v4.Lazy) && true))))))
def repOk (nd : S59) : Bool := decide (0 ≤ nd.Least) && decide (nd.Least ≤ 1000) && (nd.Most == -1 || (decide (nd.Least ≤ nd.Most) && decide (nd.Most ≤ 1000)))
theorem cs_app (acc : List Nat) (s : Nat) : cs acc ++ [(s : Int)] = cs (acc ++ [s]) := by simp [cs]

theorem F68_2_no (k : Nat) (acc : List Nat) (i x7 : Int) (o : List S59) (K : Int) (C : Nat → Int) (A B l m : Int) (z : Bool) : F68_2 k (cs acc) i x7 false o K C A B l m z = some (.inr x7) := rfl
theorem F68_3_no (k : Nat) (acc : List Nat) (i x7 : Int) (o : List S59) (K : Int) (C : Nat → Int) (A B l m : Int) (z : Bool) : F68_3 k (cs acc) i x7 false o K C A B l m z = some (.inr x7) := rfl
theorem F68_2_yes (k : Nat) (acc : List Nat) (hl : acc.length ≤ 1000) (hi : Inv acc) (o : List S59) (nd : S59) :
  F68_2 k (cs acc) (acc.length : Int) 1 true o nd.Kind nd.Class nd.A nd.B nd.Least nd.Most nd.Lazy = some (if 1 ≤ acc.length ∧ nd.A = (acc.length : Int) - 1 ∧ repOk nd = true then .inr ((1 + acc.getD (acc.length - 1) 0 : Nat) : Int) else .inl false) := by
 unfold F68_2
 rw [br_true, wm1 _ hl]
 by_cases h1 : 1 ≤ acc.length
 ·have hv := hi (acc.length - 1) (by omega)
  have hat : at? (cs acc) ((acc.length : Int) - 1) = some ((acc.getD (acc.length - 1) 0 : Nat) : Int) := by
   rw [show (acc.length : Int) - 1 = ((acc.length - 1 : Nat) : Int) by omega, cs_at (by omega)]
  have hw : IntKind.i64.wrap (1 + ((acc.getD (acc.length - 1) 0 : Nat) : Int)) = ((1 + acc.getD (acc.length - 1) 0 : Nat) : Int) := by rw [w64 (by omega) (by omega)]; omega
  rw [decide_eq_false (by omega : ¬ (acc.length : Int) < 1), br_false]
  by_cases ha : nd.A = (acc.length : Int) - 1
  ·rw [show (nd.A != (acc.length : Int) - 1) = false by rw [ha]; simp, br_false]
   by_cases h2 : nd.Least < 0
   ·rw [decide_eq_true h2, br_true, if_neg (by rintro ⟨_, _, c⟩; simp [repOk] at c; omega)]
   rw [decide_eq_false h2, br_false]
   by_cases h3 : nd.Least > 1000
   ·rw [decide_eq_true h3, br_true, if_neg (by rintro ⟨_, _, c⟩; simp [repOk] at c; omega)]
   rw [decide_eq_false h3, br_false]
   by_cases h4 : nd.Most = -1
   ·rw [show (nd.Most != -1) = false by rw [h4]; rfl, br_false, hat, bnd_some', hw, if_pos ⟨h1, ha, by simp [repOk, h4]; omega⟩]
   rw [show (nd.Most != -1) = true from bne_iff_ne.2 h4, br_true]
   by_cases h5 : nd.Most < nd.Least
   ·rw [decide_eq_true h5, br_true, if_neg (by rintro ⟨_, _, c⟩; simp [repOk] at c; omega)]
   rw [decide_eq_false h5, br_false]
   by_cases h6 : nd.Most > 1000
   ·rw [decide_eq_true h6, br_true, if_neg (by rintro ⟨_, _, c⟩; simp [repOk] at c; omega)]
   ·rw [decide_eq_false h6, br_false, hat, bnd_some', hw, if_pos ⟨h1, ha, by simp [repOk]; omega⟩]
  ·rw [show (nd.A != (acc.length : Int) - 1) = true from bne_iff_ne.2 ha, br_true, if_neg (fun c => ha c.2.1)]
 ·rw [decide_eq_true (by omega : (acc.length : Int) < 1), br_true, if_neg (fun c => h1 c.1)]
theorem F68_3_yes (k : Nat) (acc : List Nat) (hl : acc.length ≤ 1000) (hi : Inv acc) (o : List S59) (nd : S59) :
  F68_3 k (cs acc) (acc.length : Int) 1 true o nd.Kind nd.Class nd.A nd.B nd.Least nd.Most nd.Lazy =
   some (if 1 ≤ acc.length ∧ nd.B = (acc.length : Int) - 1 ∧ nd.A = (acc.length : Int) - 1 - ((acc.getD (acc.length - 1) 0 : Nat) : Int) ∧ 0 ≤ nd.A then .inr ((1 + acc.getD (acc.length - 1) 0 + acc.getD nd.A.toNat 0 : Nat) : Int) else .inl false) := by
 unfold F68_3
 rw [br_true, wm1 _ hl]
 by_cases h1 : 2 ≤ acc.length
 ·have hv := hi (acc.length - 1) (by omega)
  have hat : at? (cs acc) ((acc.length : Int) - 1) = some ((acc.getD (acc.length - 1) 0 : Nat) : Int) := by
   rw [show (acc.length : Int) - 1 = ((acc.length - 1 : Nat) : Int) by omega, cs_at (by omega)]
  rw [decide_eq_false (by omega : ¬ (acc.length : Int) < 2), br_false]
  by_cases hb : nd.B = (acc.length : Int) - 1
  ·rw [show (nd.B != (acc.length : Int) - 1) = false by rw [hb]; simp, br_false, hat, bnd_some']
   rw [show IntKind.i64.wrap ((acc.length : Int) - 1 - ((acc.getD (acc.length - 1) 0 : Nat) : Int)) = (acc.length : Int) - 1 - ((acc.getD (acc.length - 1) 0 : Nat) : Int) from w64 (by omega) (by omega)]
   by_cases h2 : acc.length ≤ acc.getD (acc.length - 1) 0
   ·rw [decide_eq_true (by omega : ((acc.getD (acc.length - 1) 0 : Nat) : Int) ≥ (acc.length : Int)), br_true, if_neg (by rintro ⟨_, _, c, c'⟩; omega)]
   ·rw [decide_eq_false (by omega : ¬ ((acc.getD (acc.length - 1) 0 : Nat) : Int) ≥ (acc.length : Int)), br_false]
    by_cases ha : nd.A = (acc.length : Int) - 1 - ((acc.getD (acc.length - 1) 0 : Nat) : Int)
    ·have h0 : 0 ≤ nd.A := by omega
     have hw := hi nd.A.toNat (by omega)
     rw [show (nd.A != (acc.length : Int) - 1 - ((acc.getD (acc.length - 1) 0 : Nat) : Int)) = false by rw [← ha]; simp, br_false, if_pos ⟨by omega, hb, ha, h0⟩]
     rw [show at? (cs acc) nd.A = some ((acc.getD nd.A.toNat 0 : Nat) : Int) by rw [show nd.A = ((nd.A.toNat : Nat) : Int) by omega, cs_at (by omega), Int.toNat_natCast], bnd_some']
     rw [show IntKind.i64.wrap (((acc.getD (acc.length - 1) 0 : Nat) : Int) + ((acc.getD nd.A.toNat 0 : Nat) : Int)) = ((acc.getD (acc.length - 1) 0 + acc.getD nd.A.toNat 0 : Nat) : Int) by rw [w64 (by omega) (by omega)]; omega]
     rw [show IntKind.i64.wrap (1 + ((acc.getD (acc.length - 1) 0 + acc.getD nd.A.toNat 0 : Nat) : Int)) = ((1 + acc.getD (acc.length - 1) 0 + acc.getD nd.A.toNat 0 : Nat) : Int) by rw [w64 (by omega) (by omega)]; omega]
    ·rw [show (nd.A != (acc.length : Int) - 1 - ((acc.getD (acc.length - 1) 0 : Nat) : Int)) = true from bne_iff_ne.2 ha, br_true, if_neg (fun c => ha c.2.2.1)]
  ·rw [show (nd.B != (acc.length : Int) - 1) = true from bne_iff_ne.2 hb, br_true, if_neg (fun c => hb c.2.1)]
 ·rw [decide_eq_true (by omega : (acc.length : Int) < 2), br_true, if_neg]
  rintro ⟨c1, _, c, c'⟩
  have hv := hi (acc.length - 1) (by omega)
  omega

theorem F68_1_spec (k : Nat) (nodes : List S59) (hN : nodes.length ≤ 1000) : ∀ (r : List S59) (m : Nat) (acc : List Nat), nodes.drop acc.length = r → acc.length + r.length = nodes.length → r.length < m → Inv acc →
  F68_1 k nodes m (cs acc) (acc.length : Int) = some (szR (szL r acc))
 | [], m, acc, hd, hl, hm, hi => by
  obtain ⟨m, rfl⟩ : ∃ m', m = m' + 1 := ⟨m - 1, by simp at hm; omega⟩
  rw [F68_1, decide_eq_false (by simp at hl; omega : ¬ (acc.length : Int) < (nodes.length : Int)), br_false]
  rfl
 | nd :: r, m, acc, hd, hl, hm, hi => by
  obtain ⟨m, rfl⟩ : ∃ m', m = m' + 1 := ⟨m - 1, by simp at hm; omega⟩
  simp only [List.length_cons] at hl hm
  have hlt : acc.length < nodes.length := by omega
  have hnd : at? nodes (acc.length : Int) = some nd := by
   rw [at_nat]
   have : (nodes.drop acc.length)[0]? = some nd := by rw [hd]; rfl
   rw [List.getElem?_drop] at this
   simpa using this
  have hd' : nodes.drop (acc.length + 1) = r := by
   have : (nodes.drop acc.length).tail = r := by rw [hd]; rfl
   rwa [List.tail_drop] at this
  have rec_ : ∀ s : Nat, 1 ≤ s → s ≤ acc.length + 1 → (req (fits ((cs acc).length + [(s : Int)].length) 8) <| F68_1 k nodes m (cs acc ++ [(s : Int)]) (IntKind.i64.wrap ((acc.length : Int) + 1))) = some (szR (szL r (acc ++ [s]))) := by
   intro s h1 h2
   rw [req_pos (fit (by rw [cs_len]; simp; omega) (by omega)), step1 _ (by omega), cs_app]
   have := F68_1_spec k nodes hN r m (acc ++ [s]) (by rw [List.length_append]; exact hd') (by rw [List.length_append]; simp; omega) (by omega) (hi.app h1 h2)
   rw [List.length_append] at this
   exact this
  rw [F68_1, decide_eq_true (by omega : (acc.length : Int) < (nodes.length : Int)), br_true, hnd, bnd_some', szL]
  by_cases c1 : nd.Kind < 1
  ·rw [decide_eq_true c1, br_true, if_neg (fun h => by have := good_kind h; omega)]; rfl
  rw [decide_eq_false c1, br_false]
  by_cases c2 : nd.Kind > 7
  ·rw [decide_eq_true c2, br_true, if_neg (fun h => by have := good_kind h; omega)]; rfl
  rw [decide_eq_false c2, br_false, F72_spec, bnd_some']
  have hgb := bare_good nd (by omega) (by omega) _ rfl
  generalize (if nd.Kind = 2 then (⟨nd.Kind, nd.Class, 0, 0, 0, 0, false⟩ : S59) else if nd.Kind = 3 ∨ nd.Kind = 4 then ⟨nd.Kind, fun _ => 0, nd.A, nd.B, 0, 0, false⟩
   else if nd.Kind = 5 then ⟨nd.Kind, fun _ => 0, nd.A, 0, nd.Least, nd.Most, nd.Lazy⟩ else ⟨nd.Kind, fun _ => 0, 0, 0, 0, 0, false⟩) = v4 at hgb ⊢
  change good nd = (bareEq nd v4 && (nd.Kind != 5 || repOk nd)) at hgb
  change br (!(bareEq nd v4)) _ _ = _
  cases hq : bareEq nd v4
  ·rw [hq, Bool.false_and] at hgb
   rw [if_neg (by rw [hgb]; simp)]; rfl
  ·rw [hq, Bool.true_and] at hgb
   simp only [Bool.not_true]
   rw [br_false]
   by_cases k5 : nd.Kind = 5
   ·rw [show (nd.Kind == 5) = true by simp [k5], F68_2_yes k acc (by omega) hi, bnd_some', show (nd.Kind == 3) = false by simp [k5], show (nd.Kind == 4) = false by simp [k5]]
    rw [show (nd.Kind != 5) = false by simp [k5], Bool.false_or] at hgb
    unfold nodeSize
    rw [if_pos k5, hgb]
    by_cases hr : repOk nd = true
    ·rw [if_pos hr]
     by_cases h1 : 1 ≤ acc.length ∧ nd.A = (acc.length : Int) - 1
     ·have hv := hi (acc.length - 1) (by omega)
      rw [if_pos ⟨h1.1, h1.2, hr⟩, if_pos h1, alt_inr, br_false, F68_3_no, bnd_some', alt_inr]
      exact rec_ _ (by omega) (by omega)
     ·rw [if_neg (fun c => h1 ⟨c.1, c.2.1⟩), if_neg h1]; rfl
    ·rw [if_neg hr, if_neg (fun c => hr c.2.2)]; rfl
   ·rw [show (nd.Kind != 5) = true by simp [k5], Bool.true_or] at hgb
    rw [if_pos hgb, show (nd.Kind == 5) = false by simp [k5], F68_2_no, bnd_some', alt_inr]
    unfold nodeSize
    rw [if_neg k5]
    by_cases k34 : nd.Kind = 3 ∨ nd.Kind = 4
    ·have e : br (nd.Kind == 3) (bnd (F68_3 k (cs acc) (acc.length : Int) 1 true nodes nd.Kind nd.Class nd.A nd.B nd.Least nd.Most nd.Lazy) fun oh8 => alt oh8 (fun v8 => some (.inl v8)) (fun v8 => req (fits ((cs acc).length + [v8].length) 8) <| F68_1 k nodes m (cs acc ++ [v8]) (IntKind.i64.wrap ((acc.length : Int) + 1))))
       (bnd (F68_3 k (cs acc) (acc.length : Int) 1 (nd.Kind == 4) nodes nd.Kind nd.Class nd.A nd.B nd.Least nd.Most nd.Lazy) fun oh8 => alt oh8 (fun v8 => some (.inl v8)) (fun v8 => req (fits ((cs acc).length + [v8].length) 8) <| F68_1 k nodes m (cs acc ++ [v8]) (IntKind.i64.wrap ((acc.length : Int) + 1)))) =
       (bnd (F68_3 k (cs acc) (acc.length : Int) 1 true nodes nd.Kind nd.Class nd.A nd.B nd.Least nd.Most nd.Lazy) fun oh8 => alt oh8 (fun v8 => some (.inl v8)) (fun v8 => req (fits ((cs acc).length + [v8].length) 8) <| F68_1 k nodes m (cs acc ++ [v8]) (IntKind.i64.wrap ((acc.length : Int) + 1)))) := by
      rcases k34 with h | h
      ·rw [show (nd.Kind == 3) = true by simp [h], br_true]
      ·rw [show (nd.Kind == 3) = false by simp [h], br_false, show (nd.Kind == 4) = true by simp [h]]
     rw [e, if_pos k34, F68_3_yes k acc (by omega) hi, bnd_some']
     split
     ·rename_i c
      have hv := hi (acc.length - 1) (by omega)
      have hw := hi nd.A.toNat (by omega)
      rw [alt_inr]
      exact rec_ _ (by omega) (by omega)
     ·rfl
    ·rw [if_neg k34, show (nd.Kind == 3) = false by simp; omega, br_false, show (nd.Kind == 4) = false by simp; omega, F68_3_no, bnd_some', alt_inr]
     exact rec_ 1 (by omega) (by omega)

def whole (nodes : List S59) : Bool := match szL nodes [] with
 | some L => decide (nodes ≠ [] ∧ L.getD (L.length - 1) 0 = L.length)
 | none => false
theorem last_at (L : List Nat) (h : L ≠ []) (hl : L.length ≤ 1000) : at? (cs L) (IntKind.i64.wrap (((cs L).length : Int) - 1)) = some ((L.getD (L.length - 1) 0 : Nat) : Int) := by
 have : 0 < L.length := List.length_pos_iff.2 h
 rw [cs_len, wm1 _ hl, show (L.length : Int) - 1 = ((L.length - 1 : Nat) : Int) by omega, cs_at (by omega)]
theorem F70_spec {k : Nat} (t : S23) (hN : t.Nodes.length ≤ 1000) (hk : 1001 < k) : ∃ L, F70 k t = some (L, whole t.Nodes) := by
 unfold F70 whole
 by_cases h0 : t.Nodes = []
 ·refine ⟨[], ?_⟩
  simp [h0, br, szL]
 ·have h1 : 0 < t.Nodes.length := List.length_pos_iff.2 h0
  rw [show ((t.Nodes.length : Int) == 0) = false by simp; exact h0, br_false, decide_eq_false (by omega : ¬ (t.Nodes.length : Int) > 2048), br_false, req_pos (mkf (by omega) (by omega))]
  have := F70_1_spec k t.Nodes t.Nodes hN t.Nodes k [] rfl (by simp) (by omega) (by intro j hj; simp at hj)
  simp only [List.length_nil, show ((0 : Nat) : Int) = 0 from rfl] at this
  have e : stR [] t.Nodes.length = List.replicate t.Nodes.length 0 := by simp [stR, cs]
  rw [e] at this
  rw [Int.toNat_natCast, this, bnd_some']
  cases hs : szL t.Nodes [] with
  | none => exact ⟨[], rfl⟩
  | some L =>
   have hL := szL_len hs
   simp at hL
   have hne : L ≠ [] := by intro e; rw [e] at hL; simp at hL; omega
   refine ⟨cs L, ?_⟩
   simp only [szR]
   rw [alt_inr, last_at L hne (by omega), bnd_some', cs_len]
   congr 2
   rw [Bool.eq_iff_iff]
   simp only [beq_iff_eq, decide_eq_true_eq, ne_eq]
   constructor
   ·intro h; exact ⟨h0, by omega⟩
   ·intro h; omega
theorem F68_spec {k : Nat} (t : S23) (hN : t.Nodes.length ≤ 1000) (hk : 1001 < k) : ∃ L, F68 k t = some (L, whole t.Nodes) := by
 unfold F68 whole
 by_cases h0 : t.Nodes = []
 ·refine ⟨[], ?_⟩
  simp [h0, br, szL]
 ·have h1 : 0 < t.Nodes.length := List.length_pos_iff.2 h0
  rw [show ((t.Nodes.length : Int) == 0) = false by simp; exact h0, br_false, decide_eq_false (by omega : ¬ (t.Nodes.length : Int) > 2048), br_false]
  have := F68_1_spec k t.Nodes hN t.Nodes k [] rfl (by simp) (by omega) (by intro j hj; simp at hj)
  simp only [List.length_nil, show ((0 : Nat) : Int) = 0 from rfl] at this
  have e : cs [] = [] := rfl
  rw [e] at this
  rw [this, bnd_some']
  cases hs : szL t.Nodes [] with
  | none => exact ⟨[], rfl⟩
  | some L =>
   have hL := szL_len hs
   simp at hL
   have hne : L ≠ [] := by intro e; rw [e] at hL; simp at hL; omega
   refine ⟨cs L, ?_⟩
   simp only [szR]
   rw [alt_inr, last_at L hne (by omega), bnd_some', cs_len]
   congr 2
   rw [Bool.eq_iff_iff]
   simp only [beq_iff_eq, decide_eq_true_eq, ne_eq]
   constructor
   ·intro h; exact ⟨h0, by omega⟩
   ·intro h; omega
theorem F56_spec {k : Nat} (t : S23) (hN : t.Nodes.length ≤ 1000) (hk : 1001 < k) : F56 k t = some (whole t.Nodes) := by
 obtain ⟨L, h⟩ := F70_spec t hN hk
 unfold F56; rw [h]; rfl
theorem F44_spec {k : Nat} (t : S23) (hN : t.Nodes.length ≤ 1000) (hk : 1001 < k) : F44 k t = some (whole t.Nodes) := by
 obtain ⟨L, h⟩ := F68_spec t hN hk
 unfold F44; rw [h]; rfl

def Vn (i : Nat) (nd : S59) : Prop := good nd = true ∧ (nd.Kind = 5 → 1 ≤ i ∧ nd.A = (i : Int) - 1) ∧ (nd.Kind = 3 ∨ nd.Kind = 4 → 1 ≤ i ∧ nd.B = (i : Int) - 1 ∧ 0 ≤ nd.A ∧ nd.A < (i : Int) - 1)
theorem szL_valid : ∀ {r : List S59} {acc L : List Nat}, szL r acc = some L → Inv acc → ∀ j nd, r[j]? = some nd → Vn (acc.length + j) nd
 | [], acc, L, h, hi, j, nd, hj => by simp at hj
 | x :: r, acc, L, h, hi, j, nd, hj => by
  simp only [szL] at h
  split at h
  ·rename_i hg
   split at h
   ·rename_i s hs
    obtain ⟨h1, h2⟩ := nodeSize_inv hi hs
    cases j with
    | zero =>
     simp at hj; subst hj
     refine ⟨hg, fun k5 => ?_, fun k34 => ?_⟩
     ·unfold nodeSize at hs
      rw [if_pos k5] at hs
      split at hs
      ·assumption
      ·cases hs
     ·unfold nodeSize at hs
      rw [if_neg (by omega), if_pos k34] at hs
      split at hs
      ·rename_i c
       have := hi (acc.length - 1) (by omega)
       simp only [Nat.add_zero]
       exact ⟨c.1, c.2.1, c.2.2.2, by omega⟩
      ·cases hs
    | succ j =>
     have := szL_valid h (hi.app h1 h2) j nd (by simpa using hj)
     rw [List.length_append] at this
     rw [show acc.length + (j + 1) = acc.length + [s].length + j by simp; omega]
     exact this
   ·cases h
  ·cases h
theorem whole_valid {nodes : List S59} (h : whole nodes = true) : nodes ≠ [] ∧ ∀ j nd, nodes[j]? = some nd → Vn j nd := by
 unfold whole at h
 split at h
 ·rename_i L hs
  refine ⟨(decide_eq_true_eq.mp h).1, fun j nd hj => ?_⟩
  have := szL_valid hs (by intro j hj; simp at hj) j nd hj
  simpa using this
 ·cases h
def anc (nodes : List S59) : Nat → List Bool → List Bool → Bool
 | 0, _, _ => true
 | i + 1, h, d => match nodes[i]? with
  | none => true
  | some nd => if nd.Kind = 6 then h.getD i false && anc nodes i h d else if nd.Kind = 7 then d.getD i false && anc nodes i h d
   else if nd.Kind = 4 then anc nodes i ((h.set nd.A.toNat (h.getD i false)).set nd.B.toNat (h.getD i false)) ((d.set nd.A.toNat (d.getD i false)).set nd.B.toNat (d.getD i false))
   else if nd.Kind = 3 then anc nodes i (h.set nd.A.toNat (h.getD i false)) (d.set nd.B.toNat (d.getD i false))
   else anc nodes i h d
def ancR : Bool → Bool ⊕ Unit
 | true => .inr ()
 | false => .inl false
def ancE : Bool → Int
 | true => 0
 | false => 51
theorem b_at {h : List Bool} {i : Nat} (hi : i < h.length) : at? h (i : Int) = some (h.getD i false) := by
 rw [at_nat]; simp [List.getElem?_eq_getElem hi, List.getD_eq_getElem?_getD]
theorem b_atI {h : List Bool} {A : Int} (h0 : 0 ≤ A) (hi : A < h.length) : at? h A = some (h.getD A.toNat false) := by
 rw [show A = ((A.toNat : Nat) : Int) by omega, b_at (by omega), Int.toNat_natCast]
theorem getD_set_ne {h : List Bool} {i j : Nat} {v : Bool} (e : i ≠ j) : (h.set i v).getD j false = h.getD j false := by
 simp [List.getD_eq_getElem?_getD, List.getElem?_set_ne e]

theorem F45_1_spec (k : Nat) (nodes : List S59) (hN : nodes.length ≤ 1000) (hv : ∀ j nd, nodes[j]? = some nd → Vn j nd) : ∀ (i m : Nat) (h d : List Bool), h.length = nodes.length → d.length = nodes.length → i ≤ nodes.length → i < m →
  F45_1 k nodes m h d ((i : Int) - 1) = some (ancR (anc nodes i h d))
 | 0, m, h, d, hh, hd, hi, hm => by
  obtain ⟨m, rfl⟩ : ∃ m', m = m' + 1 := ⟨m - 1, by omega⟩
  rw [F45_1]; simp [br, anc, ancR]
 | i + 1, m, h, d, hh, hd, hi, hm => by
  obtain ⟨m, rfl⟩ : ∃ m', m = m' + 1 := ⟨m - 1, by omega⟩
  have hlt : i < nodes.length := by omega
  obtain ⟨nd, hnd⟩ : ∃ nd, nodes[i]? = some nd := ⟨_, List.getElem?_eq_getElem hlt⟩
  have hV := hv i nd hnd
  obtain ⟨g1, g2⟩ := good_kind hV.1
  rw [F45_1, show ((i + 1 : Nat) : Int) - 1 = (i : Int) by omega, decide_eq_true (by omega : (i : Int) ≥ 0), br_true, at_nat, hnd, bnd_some', wm1 i (by omega), anc, hnd]
  simp only
  have ih := fun h' d' hh' hd' => F45_1_spec k nodes hN hv i m h' d' hh' hd' (by omega) (by omega)
  rw [b_at (by rw [hh]; exact hlt : i < h.length), b_at (by rw [hd]; exact hlt : i < d.length)]
  by_cases k4 : nd.Kind = 4
  ·obtain ⟨c1, c2, c3, c4⟩ := hV.2.2 (.inr k4)
   rw [show (nd.Kind == 4) = true by simp [k4], br_true, bnd_some', b_atI c3 (by rw [hh]; omega), bnd_some', b_at (by rw [List.length_set, hh]; exact hlt), bnd_some', b_atI (by omega) (by rw [List.length_set, hh]; omega), bnd_some', bnd_some',
    b_atI c3 (by rw [hd]; omega), bnd_some', b_at (by rw [List.length_set, hd]; exact hlt), bnd_some', b_atI (by omega) (by rw [List.length_set, hd]; omega), bnd_some', getD_set_ne (by omega), getD_set_ne (by omega),
    ih _ _ (by simp [hh]) (by simp [hd]), if_neg (show ¬ nd.Kind = 6 by omega), if_neg (show ¬ nd.Kind = 7 by omega), if_pos k4]
  rw [show (nd.Kind == 4) = false by simp [k4], br_false]
  by_cases k3 : nd.Kind = 3
  ·obtain ⟨c1, c2, c3, c4⟩ := hV.2.2 (.inl k3)
   rw [show (nd.Kind == 3) = true by simp [k3], br_true, bnd_some', b_atI c3 (by rw [hh]; omega), bnd_some', bnd_some', b_atI (by omega) (by rw [hd]; omega), bnd_some',
    ih _ _ (by simp [hh]) (by simp [hd]), if_neg (show ¬ nd.Kind = 6 by omega), if_neg (show ¬ nd.Kind = 7 by omega), if_neg k4, if_pos k3]
  rw [show (nd.Kind == 3) = false by simp [k3], br_false]
  by_cases k6 : nd.Kind = 6
  ·rw [show (nd.Kind == 6) = true by simp [k6], br_true, bnd_some', if_pos k6]
   cases hb : h.getD i false
   ·rfl
   ·simp only [Bool.not_true, Bool.true_and]
    rw [br_false, ih _ _ hh hd]
  rw [show (nd.Kind == 6) = false by simp [k6], br_false, if_neg k6]
  by_cases k7 : nd.Kind = 7
  ·rw [show (nd.Kind == 7) = true by simp [k7], br_true, bnd_some', if_pos k7]
   cases hb : d.getD i false
   ·rfl
   ·simp only [Bool.not_true, Bool.true_and]
    rw [br_false, ih _ _ hh hd]
  rw [show (nd.Kind == 7) = false by simp [k7], br_false, if_neg k7, if_neg k4, if_neg k3, ih _ _ hh hd]

theorem F36_1_spec (k : Nat) (nodes : List S59) (hN : nodes.length ≤ 1000) (hv : ∀ j nd, nodes[j]? = some nd → Vn j nd) : ∀ (i m : Nat) (h d : List Bool), h.length = nodes.length → d.length = nodes.length → i < nodes.length → i < m →
  F36_1 k nodes m h d (i : Int) = some (ancE (anc nodes (i + 1) h d))
 | i, m, h, d, hh, hd, hlt, hm => by
  obtain ⟨m, rfl⟩ : ∃ m', m = m' + 1 := ⟨m - 1, by omega⟩
  obtain ⟨nd, hnd⟩ : ∃ nd, nodes[i]? = some nd := ⟨_, List.getElem?_eq_getElem hlt⟩
  have hV := hv i nd hnd
  obtain ⟨g1, g2⟩ := good_kind hV.1
  have ih : ∀ h' d' : List Bool, h'.length = nodes.length → d'.length = nodes.length → br (decide ((i : Int) > 0)) (F36_1 k nodes m h' d' (IntKind.i64.wrap ((i : Int) - 1))) (some 0) = some (ancE (anc nodes i h' d')) := by
   intro h' d' hh' hd'
   cases i with
   | zero => simp [br, anc, ancE]
   | succ i =>
    rw [decide_eq_true (by omega), br_true, wm1 _ (by omega), show ((i + 1 : Nat) : Int) - 1 = (i : Int) by omega]
    exact F36_1_spec k nodes hN hv i m h' d' hh' hd' (by omega) (by omega)
  have two : F36_2 k h d (i : Int) nd.Kind (nd.Kind == 6) nodes nd.Kind nd.Class nd.A nd.B nd.Least nd.Most nd.Lazy = some (nd.Kind == 6 || nd.Kind == 7) := by
   unfold F36_2
   cases nd.Kind == 6 <;> rfl
  rw [F36_1, at_nat, hnd, bnd_some', two, bnd_some', anc, hnd]
  simp only
  rw [b_at (by rw [hh]; exact hlt : i < h.length), b_at (by rw [hd]; exact hlt : i < d.length)]
  by_cases k6 : nd.Kind = 6
  ·rw [show (nd.Kind == 6) = true by simp [k6], Bool.true_or, br_true, br_true, bnd_some', if_pos k6, show (nd.Kind == 7) = false by simp [k6]]
   cases hb : h.getD i false
   ·rfl
   ·simp only [Bool.not_true, Bool.true_and]
    rw [br_false, br_false, ih _ _ hh hd]
  rw [show (nd.Kind == 6) = false by simp [k6], Bool.false_or, if_neg k6]
  by_cases k7 : nd.Kind = 7
  ·rw [show (nd.Kind == 7) = true by simp [k7], br_true, br_false, br_true, bnd_some', if_pos k7]
   cases hb : d.getD i false
   ·rfl
   ·simp only [Bool.not_true, Bool.true_and]
    rw [br_false, ih _ _ hh hd]
  rw [show (nd.Kind == 7) = false by simp [k7], br_false, if_neg k7]
  by_cases k4 : nd.Kind = 4
  ·obtain ⟨c1, c2, c3, c4⟩ := hV.2.2 (.inr k4)
   rw [show (nd.Kind == 4) = true by simp [k4], br_true, bnd_some', bnd_some', b_atI c3 (by rw [hh]; omega), bnd_some', b_atI (by omega) (by rw [List.length_set, hh]; omega), bnd_some', b_atI c3 (by rw [hd]; omega), bnd_some',
    b_atI (by omega) (by rw [List.length_set, hd]; omega), bnd_some', ih _ _ (by simp [hh]) (by simp [hd]), if_pos k4]
  rw [show (nd.Kind == 4) = false by simp [k4], br_false, if_neg k4]
  by_cases k3 : nd.Kind = 3
  ·obtain ⟨c1, c2, c3, c4⟩ := hV.2.2 (.inl k3)
   rw [show (nd.Kind == 3) = true by simp [k3], br_true, bnd_some', bnd_some', b_atI c3 (by rw [hh]; omega), bnd_some', b_atI (by omega) (by rw [hd]; omega), bnd_some',
    ih _ _ (by simp [hh]) (by simp [hd]), if_pos k3]
  rw [show (nd.Kind == 3) = false by simp [k3], br_false, if_neg k3, ih _ _ hh hd]

def rootB (N : Nat) : List Bool := (List.replicate N false).set (N - 1) true
def okTree (nodes : List S59) : Bool := whole nodes && anc nodes nodes.length (rootB nodes.length) (rootB nodes.length)
theorem F36_spec {k : Nat} (t : S23) (hN : t.Nodes.length ≤ 1000) (hk : 1001 < k) : F36 k t = some (if whole t.Nodes = true then (if okTree t.Nodes = true then 0 else 51) else 50) := by
 unfold F36
 rw [F56_spec t hN hk, bnd_some']
 cases hw : whole t.Nodes
 ·rfl
 ·simp only [Bool.not_true]
  obtain ⟨h0, hv⟩ := whole_valid hw
  have h1 : 0 < t.Nodes.length := List.length_pos_iff.2 h0
  rw [br_false, req_pos (mkf (by omega) (by omega)), wm1 _ (by omega), show (t.Nodes.length : Int) - 1 = ((t.Nodes.length - 1 : Nat) : Int) by omega]
  simp only [Int.toNat_natCast]
  rw [b_at (by simp; omega), bnd_some', show (List.replicate t.Nodes.length false).set (t.Nodes.length - 1) true = rootB t.Nodes.length from rfl,
   F36_1_spec k t.Nodes hN hv (t.Nodes.length - 1) k _ _ (by simp [rootB]) (by simp [rootB]) (by omega) (by omega), show t.Nodes.length - 1 + 1 = t.Nodes.length by omega]
  simp only [okTree, hw, Bool.true_and, if_true]
  cases anc t.Nodes t.Nodes.length (rootB t.Nodes.length) (rootB t.Nodes.length) <;> rfl
theorem F20_spec {k : Nat} (t : S23) (hN : t.Nodes.length ≤ 1000) (hk : 1001 < k) : F20 k t = some (if whole t.Nodes = true then (if okTree t.Nodes = true then 0 else 51) else 50) := by
 unfold F20
 rw [F44_spec t hN hk, bnd_some']
 cases hw : whole t.Nodes
 ·rfl
 ·simp only [Bool.not_true]
  obtain ⟨h0, hv⟩ := whole_valid hw
  have h1 : 0 < t.Nodes.length := List.length_pos_iff.2 h0
  have e : F45 k t = some (okTree t.Nodes) := by
   unfold F45
   rw [req_pos (mkf (by omega) (by omega)), wm1 _ (by omega), show (t.Nodes.length : Int) - 1 = ((t.Nodes.length - 1 : Nat) : Int) by omega]
   simp only [Int.toNat_natCast]
   rw [b_at (by simp; omega), bnd_some', show (List.replicate t.Nodes.length false).set (t.Nodes.length - 1) true = rootB t.Nodes.length from rfl]
   have := F45_1_spec k t.Nodes hN hv t.Nodes.length k (rootB t.Nodes.length) (rootB t.Nodes.length) (by simp [rootB]) (by simp [rootB]) (by omega) (by omega)
   rw [show ((t.Nodes.length - 1 : Nat) : Int) = (t.Nodes.length : Int) - 1 by omega, this, bnd_some']
   simp only [okTree, hw, Bool.true_and]
   cases anc t.Nodes t.Nodes.length (rootB t.Nodes.length) (rootB t.Nodes.length) <;> rfl
  rw [br_false, e, bnd_some']
  cases okTree t.Nodes <;> rfl
abbrev noS : SP := fun _ _ => false
def repS (n k : Nat) (f : SP) (least most : Int) : SP := seqS n (powS n k f least.toNat) (powS n k (altS f idS) (if most = -1 then n + 1 else (most - least).toNat))
def nodS (k : Nat) (multi : Bool) (w : List Nat) (nd : S59) (fs : List SP) : SP :=
 if nd.Kind = 3 then seqS w.length (fs.getD nd.A.toNat noS) (fs.getD nd.B.toNat noS) else if nd.Kind = 4 then altS (fs.getD nd.A.toNat noS) (fs.getD nd.B.toNat noS)
 else if nd.Kind = 5 then repS w.length k (fs.getD nd.A.toNat noS) nd.Least nd.Most else leafS nd.Kind nd.Class multi w
theorem tbs_at {n : Nat} {fs : List SP} {A : Int} (h0 : 0 ≤ A) (h : A < fs.length) : at? (fs.map (tb n)) A = some (tb n (fs.getD A.toNat noS)) := by
 rw [show A = ((A.toNat : Nat) : Int) by omega, at_nat, Int.toNat_natCast]
 have h' : A.toNat < fs.length := by omega
 rw [List.getElem?_map, List.getElem?_eq_getElem h', List.getD_eq_getElem?_getD, List.getElem?_eq_getElem h']
 rfl
theorem good_rep {nd : S59} (h : good nd = true) (h5 : nd.Kind = 5) : 0 ≤ nd.Least ∧ nd.Least ≤ 1000 ∧ (nd.Most = -1 ∨ nd.Least ≤ nd.Most ∧ nd.Most ≤ 1000) := by
 unfold good at h
 simp only [Bool.and_eq_true, Bool.or_eq_true, decide_eq_true_eq, bne_iff_ne, beq_iff_eq] at h
 rcases h.2 with h | h
 ·exact absurd h5 h
 ·exact ⟨h.1.1, h.1.2, h.2⟩
theorem F38_spec {k : Nat} (multi : Bool) (w : List Nat) (hB : Bn w) (hw : w.length ≤ 1000) (hk : 1010 < k) (nd : S59) (fs : List SP) (hV : Vn fs.length nd) (hc : WF nd.Class) :
  F38 k (S53.mk (cs w) multi) nd (fs.map (tb w.length)) = some (tb w.length (nodS k multi w nd fs)) := by
 obtain ⟨g1, g2⟩ := good_kind hV.1
 unfold F38 nodS
 simp only [cs_len]
 by_cases k2 : nd.Kind = 2
 ·rw [show (nd.Kind == 2) = true by simp [k2], br_true, F37_spec hw (by omega), bnd_some']
  have := F38_1_spec k nd.Class hc w hB hw (cs w) multi nd.Kind nd.A nd.B nd.Least nd.Most nd.Lazy k 0 (by omega) (by omega)
  rw [show ((0 : Nat) : Int) = 0 from rfl, pre_zero] at this
  rw [this, bnd_some', if_neg (by omega), if_neg (by omega), if_neg (by omega)]
  simp [leafS, k2]
 rw [show (nd.Kind == 2) = false by simp [k2], br_false]
 by_cases k6 : nd.Kind = 6
 ·rw [show (nd.Kind == 6) = true by simp [k6], br_true, F58s59_spec multi w rfl hw (by omega), bnd_some', if_neg (by omega), if_neg (by omega), if_neg (by omega)]
  simp [leafS, k6]
 rw [show (nd.Kind == 6) = false by simp [k6], br_false]
 by_cases k7 : nd.Kind = 7
 ·rw [show (nd.Kind == 7) = true by simp [k7], br_true, F58s60_spec multi w rfl hw (by omega), bnd_some', if_neg (by omega), if_neg (by omega), if_neg (by omega)]
  simp [leafS, k7]
 rw [show (nd.Kind == 7) = false by simp [k7], br_false]
 by_cases k3 : nd.Kind = 3
 ·obtain ⟨c1, c2, c3, c4⟩ := hV.2.2 (.inl k3)
  rw [show (nd.Kind == 3) = true by simp [k3], br_true, tbs_at c3 (by omega), bnd_some', tbs_at (by omega) (by omega), bnd_some', F61_spec _ _ hw (by omega), bnd_some', if_pos k3]
 rw [show (nd.Kind == 3) = false by simp [k3], br_false, if_neg k3]
 by_cases k4 : nd.Kind = 4
 ·obtain ⟨c1, c2, c3, c4⟩ := hV.2.2 (.inr k4)
  rw [show (nd.Kind == 4) = true by simp [k4], br_true, tbs_at c3 (by omega), bnd_some', tbs_at (by omega) (by omega), bnd_some', F62_spec _ _ hw (by omega), bnd_some', if_pos k4]
 rw [show (nd.Kind == 4) = false by simp [k4], br_false, if_neg k4]
 by_cases k5 : nd.Kind = 5
 ·obtain ⟨c1, c2⟩ := hV.2.1 k5
  obtain ⟨r1, r2, r3⟩ := good_rep hV.1 k5
  have e2 : F38_2 k (w.length : Int) (tb w.length (fs.getD nd.A.toNat noS)) (IntKind.i64.wrap (nd.Most - nd.Least)) (nd.Most == -1) (cs w) multi nd.Kind nd.Class nd.A nd.B nd.Least nd.Most nd.Lazy =
    some (((if nd.Most = -1 then w.length + 1 else (nd.Most - nd.Least).toNat : Nat)) : Int) := by
   unfold F38_2
   by_cases hm : nd.Most = -1
   ·rw [show (nd.Most == -1) = true by simp [hm], br_true, step1 _ (by omega), if_pos hm]
   ·rw [show (nd.Most == -1) = false by simpa using hm, br_false, if_neg hm, w64 (by omega) (by omega)]
    congr 1; omega
  rw [show (nd.Kind == 5) = true by simp [k5], br_true, tbs_at (by omega) (by omega), bnd_some', e2, bnd_some', show (0 : Int) = ((0 : Nat) : Int) from rfl, F63_spec _ 0 hw hk (by omega), pow_zero, bnd_some', F62_spec _ _ hw (by omega), bnd_some',
   show F63 k (tb w.length (fs.getD nd.A.toNat noS)) nd.Least = some (tb w.length (powS w.length k (fs.getD nd.A.toNat noS) nd.Least.toNat)) by rw [show nd.Least = ((nd.Least.toNat : Nat) : Int) by omega, F63_spec _ _ hw hk (by omega), Int.toNat_natCast],
   bnd_some', F63_spec _ _ hw hk (by split <;> omega), bnd_some', F61_spec _ _ hw (by omega), bnd_some', if_pos k5]
  rfl
 ·rw [show (nd.Kind == 5) = false by simp [k5], br_false, F58s64_spec hw (by omega), bnd_some', if_neg k5]
  have k1 : nd.Kind = 1 := by omega
  simp [leafS, k1]

def meanL (k : Nat) (multi : Bool) (w : List Nat) : List S59 → List SP → List SP
 | [], fs => fs
 | nd :: r, fs => meanL k multi w r (fs ++ [nodS k multi w nd fs])
theorem meanL_len (k : Nat) (multi : Bool) (w : List Nat) : ∀ (r : List S59) (fs : List SP), (meanL k multi w r fs).length = fs.length + r.length
 | [], fs => by simp [meanL]
 | nd :: r, fs => by rw [meanL, meanL_len]; simp; omega
theorem F13_1_spec {k : Nat} (multi : Bool) (w : List Nat) (hB : Bn w) (hw : w.length ≤ 1000) (hk : 1010 < k) (nodes o : List S59) (hN : nodes.length ≤ 1000) (hv : ∀ j nd, nodes[j]? = some nd → Vn j nd ∧ WF nd.Class) :
  ∀ (r : List S59) (m : Nat) (fs : List SP), nodes.drop fs.length = r → fs.length + r.length = nodes.length → r.length < m →
   F13_1 k nodes (nodes.length : Int) o (cs w) multi m (fs.map (tb w.length)) (fs.length : Int) = some ((meanL k multi w r fs).map (tb w.length))
 | [], m, fs, hd, hl, hm => by
  obtain ⟨m, rfl⟩ : ∃ m', m = m' + 1 := ⟨m - 1, by simp at hm; omega⟩
  rw [F13_1, decide_eq_false (by simp at hl; omega : ¬ (fs.length : Int) < (nodes.length : Int)), br_false]
  rfl
 | nd :: r, m, fs, hd, hl, hm => by
  obtain ⟨m, rfl⟩ : ∃ m', m = m' + 1 := ⟨m - 1, by simp at hm; omega⟩
  simp only [List.length_cons] at hl hm
  have hnd : nodes[fs.length]? = some nd := by
   have : (nodes.drop fs.length)[0]? = some nd := by rw [hd]; rfl
   rw [List.getElem?_drop] at this
   simpa using this
  have hd' : nodes.drop (fs.length + 1) = r := by
   have : (nodes.drop fs.length).tail = r := by rw [hd]; rfl
   rwa [List.tail_drop] at this
  obtain ⟨hV, hc⟩ := hv _ nd hnd
  rw [F13_1, decide_eq_true (by omega : (fs.length : Int) < (nodes.length : Int)), br_true, at_nat, hnd, bnd_some', F38_spec multi w hB hw hk nd fs hV hc, bnd_some', req_pos (fit (by simp; omega) (by omega)), step1 _ (by omega), meanL]
  have := F13_1_spec multi w hB hw hk nodes o hN hv r m (fs ++ [nodS k multi w nd fs]) (by rw [List.length_append]; exact hd') (by simp; omega) (by omega)
  rw [List.map_append, List.length_append] at this
  exact this
def spanS (k : Nat) (multi : Bool) (w : List Nat) (nodes : List S59) : SP :=
 if okTree nodes = true then (meanL k multi w nodes []).getD (nodes.length - 1) noS else noS
theorem okTree_valid {nodes : List S59} (h : okTree nodes = true) : nodes ≠ [] ∧ whole nodes = true ∧ ∀ j nd, nodes[j]? = some nd → Vn j nd := by
 unfold okTree at h
 rw [Bool.and_eq_true] at h
 exact ⟨(whole_valid h.1).1, h.1, (whole_valid h.1).2⟩
theorem chk_ne {nodes : List S59} : ((if whole nodes = true then (if okTree nodes = true then (0 : Int) else 51) else 50) != 0) = !(okTree nodes) := by
 by_cases h : okTree nodes = true
 ·rw [if_pos (okTree_valid h).2.1, if_pos h, h]; rfl
 ·have h' : okTree nodes = false := by simpa using h
  rw [if_neg h, h']
  split <;> rfl
def WT (nodes : List S59) : Prop := ∀ nd ∈ nodes, WF nd.Class
theorem last_tb {k : Nat} {multi : Bool} {w : List Nat} {nodes : List S59} (h0 : nodes ≠ []) (hN : nodes.length ≤ 1000) :
  at? ((meanL k multi w nodes []).map (tb w.length)) (IntKind.i64.wrap ((((meanL k multi w nodes []).map (tb w.length)).length : Int) - 1)) = some (tb w.length ((meanL k multi w nodes []).getD (nodes.length - 1) noS)) := by
 have h1 : 0 < nodes.length := List.length_pos_iff.2 h0
 have hl := meanL_len k multi w nodes []
 simp at hl
 rw [List.length_map, hl, wm1 _ hN, tbs_at (by omega) (by rw [hl]; omega), show ((nodes.length : Int) - 1).toNat = nodes.length - 1 by omega]
theorem F13_spec {k : Nat} (t : S23) (multi : Bool) (w : List Nat) (hB : Bn w) (hw : w.length ≤ 1000) (hk : 1010 < k) (hN : t.Nodes.length ≤ 1000) (hc : WT t.Nodes) : F13 k t multi (cs w) = some (tb w.length (spanS k multi w t.Nodes)) := by
 unfold F13 spanS
 rw [F36_spec t hN (by omega), bnd_some', chk_ne]
 by_cases h : okTree t.Nodes = true
 ·obtain ⟨h0, _, hv⟩ := okTree_valid h
  rw [h, if_pos rfl]
  simp only [Bool.not_true]
  have := F13_1_spec (k := k) multi w hB hw hk t.Nodes t.Nodes hN (fun j nd hj => ⟨hv j nd hj, hc nd (List.mem_of_getElem? hj)⟩) t.Nodes k [] rfl (by simp) (by omega)
  simp only [List.map_nil, List.length_nil, show ((0 : Nat) : Int) = 0 from rfl] at this
  rw [br_false, this, bnd_some', last_tb h0 hN, bnd_some']
 ·rw [if_neg h, show okTree t.Nodes = false by simpa using h]
  simp only [Bool.not_false]
  rw [br_true, cs_len, F37_spec hw (by omega), bnd_some']
theorem F12_2_self (k n : Nat) (f : SP) (i : Nat) (hi : i ≤ n) (hn : n ≤ 1000) : ∀ (m p : Nat), p ≤ n + 1 → n + 1 - p < m → F12_2 k (tb n f) (tb n f) (i : Int) m (p : Int) = some (.inr ())
 | 0, p, hp, h => by omega
 | m + 1, p, hp, h => by
  rw [F12_2, tb_at f hi, bnd_some', row_len]
  by_cases hlt : p ≤ n
  ·rw [decide_eq_true (by omega : (p : Int) < ((n + 1 : Nat) : Int)), br_true, row_at _ hlt, bnd_some', bnd_some', row_at _ hlt, bnd_some', show (f i p != f i p) = false by simp, br_false, step1 _ (by omega)]
   exact F12_2_self k n f i hi hn m (p + 1) (by omega) (by omega)
  ·rw [decide_eq_false (by omega : ¬ (p : Int) < ((n + 1 : Nat) : Int)), br_false]
theorem F12_1_self (k n : Nat) (f : SP) (hn : n ≤ 1000) (hk : n + 1 < k) : ∀ (m p : Nat), p ≤ n + 1 → n + 1 - p < m → F12_1 k (tb n f) (tb n f) m (p : Int) = some (.inr ())
 | 0, p, hp, h => by omega
 | m + 1, p, hp, h => by
  rw [F12_1, tb_len]
  by_cases hlt : p ≤ n
  ·have := F12_2_self k n f p hlt hn k 0 (by omega) (by omega)
   rw [show ((0 : Nat) : Int) = 0 from rfl] at this
   rw [decide_eq_true (by omega : (p : Int) < ((n + 1 : Nat) : Int)), br_true, tb_at f hlt, bnd_some', bnd_some', row_len, show (((n + 1 : Nat) : Int) != ((n + 1 : Nat) : Int)) = false by simp, br_false, this, bnd_some', alt_inr, step1 _ (by omega)]
   exact F12_1_self k n f hn hk m (p + 1) (by omega) (by omega)
  ·rw [decide_eq_false (by omega : ¬ (p : Int) < ((n + 1 : Nat) : Int)), br_false]
theorem F12_self {k n : Nat} (f : SP) (hn : n ≤ 1000) (hk : n + 1 < k) : F12 k (tb n f) (tb n f) = some true := by
 unfold F12
 rw [tb_len, show (((n + 1 : Nat) : Int) != ((n + 1 : Nat) : Int)) = false by simp, br_false]
 have := F12_1_self k n f hn hk k 0 (by omega) (by omega)
 rw [show ((0 : Nat) : Int) = 0 from rfl] at this
 rw [this]; rfl

theorem byte_of {n : Int} (h : IntKind.u8.min ≤ n ∧ n ≤ IntKind.u8.max) : ∃ b : Nat, n = (b : Int) ∧ b < 256 := by
 simp [IntKind.min, IntKind.max, IntKind.signed, IntKind.bits] at h
 exact ⟨n.toNat, by omega, by omega⟩
theorem cs_of {l : List Int} (h : ∀ y ∈ l, IntKind.u8.min ≤ y ∧ y ≤ IntKind.u8.max) : ∃ w, l = cs w ∧ Bn w := by
 induction l with
 | nil => exact ⟨[], rfl, by intro x hx; simp at hx⟩
 | cons a l ih =>
  obtain ⟨w, hw, hB⟩ := ih fun y hy => h y (by simp [hy])
  obtain ⟨b, hb, hlt⟩ := byte_of (h a (by simp))
  refine ⟨b :: w, by simp [cs, hb, hw], ?_⟩
  intro x hx
  rcases List.mem_cons.1 hx with rfl | hx
  ·exact hlt
  ·exact hB x hx
theorem WT_of {t : S23} (h : W23 t) : WT t.Nodes := by
 intro nd hnd j hj
 have := (h nd hnd).2.1 j hj
 simp [IntKind.min, IntKind.max, IntKind.signed, IntKind.bits] at this
 omega
theorem F10_spec (t : S23) (w : List Nat) : F10 t (cs w) = some (decide (t.Nodes.length ≤ 60 ∧ w.length ≤ 24)) := by
 unfold F10
 rw [cs_len]
 by_cases h : t.Nodes.length ≤ 60
 ·rw [decide_eq_true (by omega : (t.Nodes.length : Int) ≤ 60), br_true]
  congr 1
  rw [Bool.eq_iff_iff]; simp; omega
 ·rw [decide_eq_false (by omega : ¬ (t.Nodes.length : Int) ≤ 60), br_false]
  simp; omega
theorem begun8 : F11 2000 = some true := by decide +kernel
theorem getD_snoc {α : Type} {l : List α} {x d : α} {q : Nat} : (l ++ [x]).getD q d = if q < l.length then l.getD q d else if q = l.length then x else d := by
 simp only [List.getD_eq_getElem?_getD]
 by_cases h : q < l.length
 ·rw [if_pos h, List.getElem?_append_left h]
 ·rw [if_neg h]
  by_cases e : q = l.length
  ·subst e; simp
  ·rw [if_neg e, List.getElem?_eq_none (by simp; omega)]; rfl
def capW (x : Int) : Int := mnI x 1073741824
def timesW (x y : Int) : Int := if x = 0 ∨ y = 0 then 0 else if x < 0 ∨ y < 0 then -1 else capW (x * y)
def Rg (x : Int) : Prop := -1 ≤ x ∧ x ≤ 1073741824
def Wd (n : Nat) (f : SP) (l m : Int) : Prop := 0 ≤ l ∧ Rg l ∧ Rg m ∧ ∀ a b : Nat, b ≤ n → f a b = true → a ≤ b ∧ l ≤ (b : Int) - a ∧ (0 ≤ m → (b : Int) - a ≤ m)
theorem seq_some {n : Nat} {f g : SP} {a b : Nat} (h : seqS n f g a b = true) : ∃ q, q ≤ n ∧ a ≤ q ∧ q ≤ b ∧ f a q = true ∧ g q b = true := by
 simp only [seqS, List.any_eq_true, List.mem_range, Bool.and_eq_true, decide_eq_true_eq] at h
 obtain ⟨q, hq, ⟨⟨h1, h2⟩, h3⟩, h4⟩ := h
 exact ⟨q, by omega, h1, h3, h2, h4⟩
theorem powB_lo {n : Nat} : ∀ (j m : Nat) (f acc : SP) (l A : Int), (∀ a b : Nat, b ≤ n → f a b = true → a ≤ b ∧ l ≤ (b : Int) - a) → (∀ a b : Nat, b ≤ n → acc a b = true → a ≤ b ∧ A ≤ (b : Int) - a) → m < 2 ^ j →
  ∀ a b : Nat, b ≤ n → powB n j f m acc a b = true → a ≤ b ∧ A + (m : Int) * l ≤ (b : Int) - a
 | 0, m, f, acc, l, A, hf, ha, hm, a, b, hb, h => by
  obtain rfl : m = 0 := by simpa using hm
  have := ha a b hb h
  simp; omega
 | j + 1, m, f, acc, l, A, hf, ha, hm, a, b, hb, h => by
  rw [powB] at h
  by_cases h0 : m = 0
  ·subst h0
   rw [if_pos rfl] at h
   have := ha a b hb h
   simp; omega
  ·rw [if_neg h0] at h
   have hff : ∀ a b : Nat, b ≤ n → seqS n f f a b = true → a ≤ b ∧ l + l ≤ (b : Int) - a := by
    intro a b hb h
    obtain ⟨q, hq, _, _, h1, h2⟩ := seq_some h
    have := hf a q hq h1; have := hf q b hb h2
    omega
   have hd : (m : Int) * l = ((m / 2 : Nat) : Int) * (l + l) + ((m % 2 : Nat) : Int) * l := by
    have : (m : Int) = ((m / 2 : Nat) : Int) + ((m / 2 : Nat) : Int) + ((m % 2 : Nat) : Int) := by omega
    rw [this, Int.add_mul, Int.add_mul, Int.mul_add]
   by_cases h1 : m % 2 = 1
   ·rw [if_pos h1] at h
    have := powB_lo j (m / 2) _ _ (l + l) (A + l) hff (by
     intro a b hb h
     obtain ⟨q, hq, _, _, h1, h2⟩ := seq_some h
     have := ha a q hq h1; have := hf q b hb h2
     omega) (by rw [Nat.pow_succ] at hm; omega) a b hb h
    rw [hd, h1]; simp; simp at this; omega
   ·rw [if_neg h1] at h
    have := powB_lo j (m / 2) _ _ (l + l) A hff ha (by rw [Nat.pow_succ] at hm; omega) a b hb h
    rw [hd, show m % 2 = 0 by omega]; simp; simp at this; omega
theorem powB_hi {n : Nat} : ∀ (j m : Nat) (f acc : SP) (l A : Int), (∀ a b : Nat, b ≤ n → f a b = true → (b : Int) - a ≤ l) → (∀ a b : Nat, b ≤ n → acc a b = true → (b : Int) - a ≤ A) → m < 2 ^ j →
  ∀ a b : Nat, b ≤ n → powB n j f m acc a b = true → (b : Int) - a ≤ A + (m : Int) * l
 | 0, m, f, acc, l, A, hf, ha, hm, a, b, hb, h => by
  obtain rfl : m = 0 := by simpa using hm
  have := ha a b hb h
  simp; omega
 | j + 1, m, f, acc, l, A, hf, ha, hm, a, b, hb, h => by
  rw [powB] at h
  by_cases h0 : m = 0
  ·subst h0
   rw [if_pos rfl] at h
   have := ha a b hb h
   simp; omega
  ·rw [if_neg h0] at h
   have hff : ∀ a b : Nat, b ≤ n → seqS n f f a b = true → (b : Int) - a ≤ l + l := by
    intro a b hb h
    obtain ⟨q, hq, _, _, h1, h2⟩ := seq_some h
    have := hf a q hq h1; have := hf q b hb h2
    omega
   have hd : (m : Int) * l = ((m / 2 : Nat) : Int) * (l + l) + ((m % 2 : Nat) : Int) * l := by
    have : (m : Int) = ((m / 2 : Nat) : Int) + ((m / 2 : Nat) : Int) + ((m % 2 : Nat) : Int) := by omega
    rw [this, Int.add_mul, Int.add_mul, Int.mul_add]
   by_cases h1 : m % 2 = 1
   ·rw [if_pos h1] at h
    have := powB_hi j (m / 2) _ _ (l + l) (A + l) hff (by
     intro a b hb h
     obtain ⟨q, hq, _, _, h1, h2⟩ := seq_some h
     have := ha a q hq h1; have := hf q b hb h2
     omega) (by rw [Nat.pow_succ] at hm; omega) a b hb h
    rw [hd, h1]; simp; simp at this; omega
   ·rw [if_neg h1] at h
    have := powB_hi j (m / 2) _ _ (l + l) A hff ha (by rw [Nat.pow_succ] at hm; omega) a b hb h
    rw [hd, show m % 2 = 0 by omega]; simp; simp at this; omega
theorem capW_spec (x : Int) : capW x ≤ x ∧ capW x ≤ 1073741824 ∧ (0 ≤ x → 0 ≤ capW x) ∧ (x ≤ 1073741824 → capW x = x) ∧ (1073741824 ≤ x → capW x = 1073741824) := by
 unfold capW mnI
 split <;> (refine ⟨?_, ?_, ?_, ?_, ?_⟩ <;> omega)
theorem capW_hi {n : Nat} (hn : n ≤ 1000) {a b : Nat} (hb : b ≤ n) {x : Int} (h : (b : Int) - a ≤ x) : (b : Int) - a ≤ capW x := by
 obtain ⟨_, _, _, h4, h5⟩ := capW_spec x
 by_cases c : x ≤ 1073741824
 ·rw [h4 c]; exact h
 ·rw [h5 (by omega)]; omega
theorem mnI_spec (x y : Int) : mnI x y ≤ x ∧ mnI x y ≤ y ∧ (mnI x y = x ∨ mnI x y = y) := by unfold mnI; split <;> omega
theorem mxI_spec (x y : Int) : x ≤ mxI x y ∧ y ≤ mxI x y ∧ (mxI x y = x ∨ mxI x y = y) := by unfold mxI; split <;> omega
theorem Wd.alt {n : Nat} {f g : SP} {l m l' m' : Int} (h : Wd n f l m) (h' : Wd n g l' m') : Wd n (altS f g) (mnI l l') (if m < 0 ∨ m' < 0 then -1 else mxI m m') := by
 obtain ⟨p0, p1, p2, p3⟩ := h
 obtain ⟨q0, q1, q2, q3⟩ := h'
 unfold Rg at p1 p2 q1 q2
 have c1 := mnI_spec l l'
 have c2 := mxI_spec m m'
 refine ⟨by omega, by unfold Rg; omega, by unfold Rg; split <;> omega, fun a b hb hs => ?_⟩
 simp only [altS, Bool.or_eq_true] at hs
 rcases hs with hs | hs
 ·have := p3 a b hb hs
  refine ⟨by omega, by omega, fun h0 => ?_⟩
  split at h0 <;> (first | omega | (rename_i hneg; rw [if_neg hneg]; omega))
 ·have := q3 a b hb hs
  refine ⟨by omega, by omega, fun h0 => ?_⟩
  split at h0 <;> (first | omega | (rename_i hneg; rw [if_neg hneg]; omega))
theorem id_w (n : Nat) : ∀ a b : Nat, b ≤ n → idS a b = true → a = b := by
 intro a b _ h
 simp only [diagS, Bool.and_eq_true, decide_eq_true_eq] at h
 exact h.1
theorem Wd.rep {n k : Nat} {f : SP} {l m : Int} (hn : n ≤ 1000) (hk : 1010 < k) (h : Wd n f l m) (L M : Int) (r1 : 0 ≤ L) (r2 : L ≤ 1000) (r3 : M = -1 ∨ L ≤ M ∧ M ≤ 1000) : Wd n (repS n k f L M) (timesW L l) (timesW M m) := by
 obtain ⟨p0, p1, p2, p3⟩ := h
 have p1' := p1; have p2' := p2
 unfold Rg at p1' p2'
 have hj : ∀ x : Nat, x < 1000000 → x < 2 ^ (k - 1) := fun x hx => Nat.lt_of_lt_of_le hx (two20 hk)
 have hLl : 0 ≤ L * l := Int.mul_nonneg r1 p0
 have hLle : L * l ≤ 1000 * 1073741824 := Int.mul_le_mul r2 p1'.2 p0 (by omega)
 have c1 := capW_spec (L * l)
 have hlo : 0 ≤ timesW L l ∧ timesW L l ≤ L * l ∧ Rg (timesW L l) := by
  unfold timesW Rg
  by_cases e : L = 0 ∨ l = 0
  ·rw [if_pos e]; omega
  ·rw [if_neg e, if_neg (by omega)]; omega
 have hhi : Rg (timesW M m) := by
  unfold timesW Rg
  by_cases e : M = 0 ∨ m = 0
  ·rw [if_pos e]; omega
  ·rw [if_neg e]
   by_cases e2 : M < 0 ∨ m < 0
   ·rw [if_pos e2]; omega
   ·rw [if_neg e2]
    have c2 := capW_spec (M * m)
    have : 0 ≤ M * m := Int.mul_nonneg (by omega) (by omega)
    omega
 refine ⟨hlo.1, hlo.2.2, hhi, fun a b hb hs => ?_⟩
 unfold repS at hs
 obtain ⟨q, hq, h1, h2, h3, h4⟩ := seq_some hs
 unfold powS at h3 h4
 have ls := powB_lo (n := n) (k - 1) L.toNat f idS l 0 (fun a b hb h => ⟨(p3 a b hb h).1, (p3 a b hb h).2.1⟩) (fun a b hb h => by have := id_w n a b hb h; omega) (hj _ (by omega)) a q hq h3
 rw [show ((L.toNat : Nat) : Int) = L by omega] at ls
 have ls2 := powB_lo (n := n) (k - 1) _ (altS f idS) idS 0 0 (fun a b hb h => by
  simp only [altS, Bool.or_eq_true] at h
  rcases h with h | h
  ·have := p3 a b hb h; omega
  ·have := id_w n a b hb h; omega) (fun a b hb h => by have := id_w n a b hb h; omega) (hj _ (by split <;> omega)) q b hb h4
 refine ⟨by omega, by omega, fun h0 => ?_⟩
 by_cases hm0 : m = 0
 ·have e : timesW M m = 0 := by unfold timesW; rw [if_pos (.inr hm0)]
  rw [e]
  have us := powB_hi (n := n) (k - 1) L.toNat f idS 0 0 (fun a b hb h => by have := (p3 a b hb h).2.2 (by omega); omega) (fun a b hb h => by have := id_w n a b hb h; omega) (hj _ (by omega)) a q hq h3
  have us2 := powB_hi (n := n) (k - 1) _ (altS f idS) idS 0 0 (fun a b hb h => by
   simp only [altS, Bool.or_eq_true] at h
   rcases h with h | h
   ·have := (p3 a b hb h).2.2 (by omega); omega
   ·have := id_w n a b hb h; omega) (fun a b hb h => by have := id_w n a b hb h; omega) (hj _ (by split <;> omega)) q b hb h4
  simp at us us2; omega
 ·by_cases hM0 : M = 0
  ·have e : timesW M m = 0 := by unfold timesW; rw [if_pos (.inl hM0)]
   rw [e]
   have hL0 : L = 0 := by omega
   subst hL0
   rw [if_neg (by omega), hM0] at h4
   have e3 : powB n (k - 1) f 0 idS = idS := by cases k - 1 <;> simp [powB]
   have e4 : powB n (k - 1) (altS f idS) 0 idS = idS := by cases k - 1 <;> simp [powB]
   rw [show (0 : Int).toNat = 0 from rfl, e3] at h3
   rw [show ((0 : Int) - 0).toNat = 0 from rfl, e4] at h4
   have := id_w n a q hq h3; have := id_w n q b hb h4
   omega
  ·by_cases hneg : M < 0 ∨ m < 0
   ·exfalso
    unfold timesW at h0
    rw [if_neg (by omega), if_pos hneg] at h0
    omega
   ·have e : timesW M m = capW (M * m) := by unfold timesW; rw [if_neg (by omega), if_neg hneg]
    rw [e]
    rw [if_neg (by omega)] at h4
    have us := powB_hi (n := n) (k - 1) L.toNat f idS m 0 (fun a b hb h => (p3 a b hb h).2.2 (by omega)) (fun a b hb h => by have := id_w n a b hb h; omega) (hj _ (by omega)) a q hq h3
    have us2 := powB_hi (n := n) (k - 1) _ (altS f idS) idS m 0 (fun a b hb h => by
     simp only [altS, Bool.or_eq_true] at h
     rcases h with h | h
     ·exact (p3 a b hb h).2.2 (by omega)
     ·have := id_w n a b hb h; omega) (fun a b hb h => by have := id_w n a b hb h; omega) (hj _ (by omega)) q b hb h4
    rw [show ((L.toNat : Nat) : Int) = L by omega] at us
    rw [show (((M - L).toNat : Nat) : Int) = M - L by omega, Int.sub_mul] at us2
    exact capW_hi hn hb (by omega)

def Path (f : SP) : Nat → Nat → Nat → Prop
 | 0, a, b => a = b
 | m + 1, a, b => ∃ c, a ≤ c ∧ c ≤ b ∧ f a c = true ∧ Path f m c b
theorem path_le {f : SP} : ∀ {m a b : Nat}, Path f m a b → a ≤ b
 | 0, a, b, h => by simp only [Path] at h; omega
 | m + 1, a, b, h => by obtain ⟨c, h1, h2, _, _⟩ := h; omega
theorem seq_iff {n a b : Nat} {f g : SP} (hb : b ≤ n) : seqS n f g a b = true ↔ ∃ q, a ≤ q ∧ q ≤ b ∧ f a q = true ∧ g q b = true := by
 constructor
 ·intro h
  obtain ⟨q, _, h1, h2, h3, h4⟩ := seq_some h
  exact ⟨q, h1, h2, h3, h4⟩
 ·rintro ⟨q, h1, h2, h3, h4⟩
  simp only [seqS, List.any_eq_true, List.mem_range, Bool.and_eq_true, decide_eq_true_eq]
  exact ⟨q, by omega, ⟨⟨h1, h3⟩, h2⟩, h4⟩
theorem path_add {f : SP} : ∀ {m m' a b : Nat}, Path f (m + m') a b ↔ ∃ c, Path f m a c ∧ Path f m' c b
 | 0, m', a, b => by
  rw [Nat.zero_add]
  constructor
  ·intro h; exact ⟨a, rfl, h⟩
  ·rintro ⟨c, h1, h2⟩
   simp only [Path] at h1; subst h1; exact h2
 | m + 1, m', a, b => by
  rw [show m + 1 + m' = (m + m') + 1 by omega]
  constructor
  ·rintro ⟨c, h1, h2, h3, h4⟩
   obtain ⟨e, h5, h6⟩ := path_add.1 h4
   exact ⟨e, ⟨c, h1, path_le h5, h3, h5⟩, h6⟩
  ·rintro ⟨e, ⟨c, h1, h2, h3, h4⟩, h6⟩
   exact ⟨c, h1, by have := path_le h6; omega, h3, path_add.2 ⟨e, h4, h6⟩⟩
theorem path_seq {n : Nat} {f : SP} : ∀ {m a b : Nat}, b ≤ n → (Path (seqS n f f) m a b ↔ Path f (m + m) a b)
 | 0, a, b, hb => Iff.rfl
 | m + 1, a, b, hb => by
  rw [show m + 1 + (m + 1) = (m + m) + 1 + 1 by omega]
  constructor
  ·rintro ⟨c, h1, h2, h3, h4⟩
   obtain ⟨q, q1, q2, q3, q4⟩ := (seq_iff (by omega)).1 h3
   exact ⟨q, q1, by omega, q3, c, q2, h2, q4, (path_seq hb).1 h4⟩
  ·rintro ⟨q, q1, q2, q3, c, h1, h2, h3, h4⟩
   exact ⟨c, by omega, h2, (seq_iff (by omega)).2 ⟨q, q1, h1, q3, h3⟩, (path_seq hb).2 h4⟩
theorem powB_iff {n : Nat} : ∀ {j m : Nat} {f acc : SP} {a b : Nat}, m < 2 ^ j → b ≤ n → (powB n j f m acc a b = true ↔ ∃ c, a ≤ c ∧ c ≤ b ∧ acc a c = true ∧ Path f m c b) ∨ ¬ a ≤ b
 | j, m, f, acc, a, b, hm, hb => by
  by_cases hab : a ≤ b
  ·left
   induction j generalizing m f acc a b with
   | zero =>
    obtain rfl : m = 0 := by simpa using hm
    simp only [powB, Path]
    constructor
    ·intro h; exact ⟨b, hab, Nat.le_refl _, h, rfl⟩
    ·rintro ⟨c, _, _, h, rfl⟩; exact h
   | succ j ih =>
    rw [powB]
    by_cases h0 : m = 0
    ·subst h0
     rw [if_pos rfl]
     simp only [Path]
     constructor
     ·intro h; exact ⟨b, hab, Nat.le_refl _, h, rfl⟩
     ·rintro ⟨c, _, _, h, rfl⟩; exact h
    ·rw [if_neg h0, ih _ _ _ _ _ (by rw [Nat.pow_succ] at hm; omega) hb hab]
     by_cases h1 : m % 2 = 1
     ·rw [if_pos h1]
      constructor
      ·rintro ⟨c, c1, c2, c3, c4⟩
       obtain ⟨q, q1, q2, q3, q4⟩ := (seq_iff (by omega)).1 c3
       refine ⟨q, q1, by omega, q3, ?_⟩
       rw [show m = (m / 2 + m / 2) + 1 by omega]
       exact ⟨c, q2, c2, q4, (path_seq hb).1 c4⟩
      ·rintro ⟨q, q1, q2, q3, h⟩
       rw [show m = (m / 2 + m / 2) + 1 by omega] at h
       obtain ⟨c, c1, c2, c3, c4⟩ := h
       exact ⟨c, by omega, c2, (seq_iff (by omega)).2 ⟨q, q1, c1, q3, c3⟩, (path_seq hb).2 c4⟩
     ·rw [if_neg h1]
      constructor
      ·rintro ⟨c, c1, c2, c3, c4⟩
       refine ⟨c, c1, c2, c3, ?_⟩
       have := (path_seq hb).1 c4
       rwa [show m / 2 + m / 2 = m by omega] at this
      ·rintro ⟨c, c1, c2, c3, c4⟩
       refine ⟨c, c1, c2, c3, (path_seq hb).2 ?_⟩
       rwa [show m / 2 + m / 2 = m by omega]
  ·right; exact hab
theorem powS_iff {n k m : Nat} {f : SP} {a b : Nat} (hk : 1010 < k) (hm : m < 1000000) (hb : b ≤ n) (hab : a ≤ b) : powS n k f m a b = true ↔ Path f m a b := by
 unfold powS
 rcases powB_iff (n := n) (j := k - 1) (m := m) (f := f) (acc := idS) (a := a) (b := b) (Nat.lt_of_lt_of_le hm (two20 hk)) hb with h | h
 ·rw [h]
  constructor
  ·rintro ⟨c, _, _, h1, h2⟩
   have := id_w n a c (by have := path_le h2; omega) h1
   subst this; exact h2
  ·intro h
   exact ⟨a, Nat.le_refl _, hab, by simp [diagS], h⟩
 ·exact absurd hab h
theorem path_refl {f : SP} (hf : ∀ a, f a a = true) (a : Nat) : ∀ D, Path f D a a
 | 0 => rfl
 | D + 1 => ⟨a, Nat.le_refl _, Nat.le_refl _, hf a, path_refl hf a D⟩
theorem path_stay {f : SP} (hf : ∀ a, f a a = true) : ∀ {M a b : Nat}, Path f M a b → ∀ D, b - a ≤ D → Path f D a b
 | 0, a, b, h, D, hD => by simp only [Path] at h; subst h; exact path_refl hf a D
 | M + 1, a, b, h, D, hD => by
  obtain ⟨c, h1, h2, h3, h4⟩ := h
  by_cases e : c = a
  ·subst e; exact path_stay hf h4 D hD
  ·obtain ⟨D, rfl⟩ : ∃ D', D = D' + 1 := ⟨D - 1, by omega⟩
   exact ⟨c, h1, h2, h3, path_stay hf h4 D (by omega)⟩
theorem opt_refl (f : SP) (a : Nat) : altS f idS a a = true := by simp [altS, diagS]
def Star (f : SP) (a b : Nat) : Prop := ∃ M, Path (altS f idS) M a b
theorem star_iff {f : SP} {a b D : Nat} (hD : b - a ≤ D) : Path (altS f idS) D a b ↔ Star f a b :=
 ⟨fun h => ⟨D, h⟩, fun ⟨M, h⟩ => path_stay (opt_refl f) h D hD⟩
theorem rep_iff {n k : Nat} {f : SP} {l m : Int} {a b : Nat} (hn : n ≤ 1000) (hk : 1010 < k) (r1 : 0 ≤ l) (r2 : l ≤ 1000) (r3 : m = -1 ∨ l ≤ m ∧ m ≤ 1000) (hb : b ≤ n) :
  repS n k f l m a b = true ↔ ∃ c, c ≤ b ∧ Path f l.toNat a c ∧ (if m = -1 then Star f c b else Path (altS f idS) (m - l).toNat c b) := by
 unfold repS
 rw [seq_iff hb]
 constructor
 ·rintro ⟨q, q1, q2, q3, q4⟩
  refine ⟨q, q2, (powS_iff hk (by omega) (by omega) q1).1 q3, ?_⟩
  have := (powS_iff hk (by split <;> omega) hb q2).1 q4
  by_cases e : m = -1
  ·rw [if_pos e] at this ⊢; exact ⟨_, this⟩
  ·rw [if_neg e] at this ⊢; exact this
 ·rintro ⟨q, q2, q3, q4⟩
  refine ⟨q, path_le q3, q2, (powS_iff hk (by omega) (by omega) (path_le q3)).2 q3, (powS_iff hk (by split <;> omega) hb q2).2 ?_⟩
  by_cases e : m = -1
  ·rw [if_pos e] at q4 ⊢; exact (star_iff (by omega)).2 q4
  ·rw [if_neg e] at q4 ⊢; exact q4

def Sh (i n' : Nat) (f f' : SP) : Prop := ∀ a b, a ≤ b → b ≤ n' → (f (i + a) (i + b) = true ↔ f' a b = true)
theorem Sh.path {i n' : Nat} {f f' : SP} (h : Sh i n' f f') : ∀ {m a b : Nat}, a ≤ b → b ≤ n' → (Path f m (i + a) (i + b) ↔ Path f' m a b)
 | 0, a, b, hab, hb => by simp only [Path]; omega
 | m + 1, a, b, hab, hb => by
  constructor
  ·rintro ⟨c, c1, c2, c3, c4⟩
   obtain ⟨c, rfl⟩ : ∃ c', c = i + c' := ⟨c - i, by omega⟩
   exact ⟨c, by omega, by omega, (h a c (by omega) (by omega)).1 c3, (h.path (by omega) hb).1 c4⟩
  ·rintro ⟨c, c1, c2, c3, c4⟩
   exact ⟨i + c, by omega, by omega, (h a c c1 (by omega)).2 c3, (h.path c2 hb).2 c4⟩
theorem Sh.alt {i n' : Nat} {f f' g g' : SP} (h : Sh i n' f f') (h' : Sh i n' g g') : Sh i n' (altS f g) (altS f' g') := by
 intro a b hab hb
 simp only [altS, Bool.or_eq_true]
 rw [h a b hab hb, h' a b hab hb]
theorem Sh.id (i n' : Nat) : Sh i n' idS idS := by
 intro a b _ _
 simp [diagS]
theorem Sh.star {i n' : Nat} {f f' : SP} (h : Sh i n' f f') {a b : Nat} (hab : a ≤ b) (hb : b ≤ n') : Star f (i + a) (i + b) ↔ Star f' a b := by
 constructor
 ·rintro ⟨M, hM⟩; exact ⟨M, ((h.alt (Sh.id i n')).path hab hb).1 hM⟩
 ·rintro ⟨M, hM⟩; exact ⟨M, ((h.alt (Sh.id i n')).path hab hb).2 hM⟩
theorem Sh.rep {i n n' k : Nat} {f f' : SP} {l m : Int} (hn : n ≤ 1000) (hk : 1010 < k) (hin : i + n' ≤ n) (r1 : 0 ≤ l) (r2 : l ≤ 1000) (r3 : m = -1 ∨ l ≤ m ∧ m ≤ 1000) (h : Sh i n' f f') : Sh i n' (repS n k f l m) (repS n' k f' l m) := by
 intro a b hab hb
 rw [rep_iff hn hk r1 r2 r3 (by omega), rep_iff (by omega) hk r1 r2 r3 hb]
 constructor
 ·rintro ⟨c, c1, c2, c3⟩
  have := path_le c2
  obtain ⟨c, rfl⟩ : ∃ c', c = i + c' := ⟨c - i, by omega⟩
  refine ⟨c, by omega, (h.path (by omega) (by omega)).1 c2, ?_⟩
  by_cases e : m = -1
  ·rw [if_pos e] at c3 ⊢; exact (h.star (by omega) hb).1 c3
  ·rw [if_neg e] at c3 ⊢; exact ((h.alt (Sh.id i n')).path (by omega) hb).1 c3
 ·rintro ⟨c, c1, c2, c3⟩
  have := path_le c2
  refine ⟨i + c, by omega, (h.path this (by omega)).2 c2, ?_⟩
  by_cases e : m = -1
  ·rw [if_pos e] at c3 ⊢; exact (h.star c1 hb).2 c3
  ·rw [if_neg e] at c3 ⊢; exact ((h.alt (Sh.id i n')).path c1 hb).2 c3
def bareN (nd : S59) : Bool := !(nd.Kind == 6 || nd.Kind == 7)
def shN (at_ : Int) (nd : S59) : S59 :=
 if nd.Kind = 3 ∨ nd.Kind = 4 then ⟨nd.Kind, nd.Class, nd.A + at_, nd.B + at_, nd.Least, nd.Most, nd.Lazy⟩ else if nd.Kind = 5 then ⟨nd.Kind, nd.Class, nd.A + at_, nd.B, nd.Least, nd.Most, nd.Lazy⟩ else nd
theorem shN_kind (x : Int) (nd : S59) : (shN x nd).Kind = nd.Kind := by unfold shN; split <;> (try split) <;> rfl
theorem shN_class (x : Int) (nd : S59) : (shN x nd).Class = nd.Class := by unfold shN; split <;> (try split) <;> rfl
theorem shN_good (x : Int) (nd : S59) : good (shN x nd) = good nd := by
 unfold shN
 by_cases h : nd.Kind = 3 ∨ nd.Kind = 4
 ·rw [if_pos h]; rcases h with h | h <;> simp [good, h]
 ·rw [if_neg h]
  by_cases h5 : nd.Kind = 5
  ·rw [if_pos h5]; simp [good, h5]
  ·rw [if_neg h5]
theorem shN_bare (x : Int) (nd : S59) : bareN (shN x nd) = bareN nd := by unfold bareN; rw [shN_kind]
theorem shN_zero (nd : S59) : shN 0 nd = nd := by
 unfold shN
 split
 ·simp
 ·split
  ·simp
  ·rfl
theorem F46_1_spec (k at_ : Nat) (ha : at_ ≤ 1000) (nodes : List S59) (hN : nodes.length ≤ 1000) (hv : ∀ j nd, nodes[j]? = some nd → Vn j nd) :
  ∀ (r : List S59) (m p : Nat) (acc : List S59), nodes.drop p = r → p + r.length = nodes.length → r.length < m → acc.length ≤ 2000 + p → F46o0_1 k (at_ : Int) nodes m acc (p : Int) = some (acc ++ r.map (shN at_))
 | [], m, p, acc, hd, hl, hm, hacc => by
  obtain ⟨m, rfl⟩ : ∃ m', m = m' + 1 := ⟨m - 1, by simp at hm; omega⟩
  rw [F46o0_1, decide_eq_false (by simp at hl; omega : ¬ (p : Int) < (nodes.length : Int)), br_false]; simp
 | nd :: r, m, p, acc, hd, hl, hm, hacc => by
  obtain ⟨m, rfl⟩ : ∃ m', m = m' + 1 := ⟨m - 1, by simp at hm; omega⟩
  simp only [List.length_cons] at hl hm
  have hnd : nodes[p]? = some nd := by
   have : (nodes.drop p)[0]? = some nd := by rw [hd]; rfl
   rw [List.getElem?_drop] at this
   simpa using this
  have hd' : nodes.drop (p + 1) = r := by
   have : (nodes.drop p).tail = r := by rw [hd]; rfl
   rwa [List.tail_drop] at this
  have hV := hv p nd hnd
  have fin : ∀ x, x = shN at_ nd → (req (fits (acc.length + [x].length) 80) <| F46o0_1 k (at_ : Int) nodes m (acc ++ [x]) (IntKind.i64.wrap ((p : Int) + 1))) = some (acc ++ (nd :: r).map (shN at_)) := by
   intro x hx
   rw [req_pos (fit (by simp; omega) (by omega)), step1 _ (by omega), F46_1_spec k at_ ha nodes hN hv r m (p + 1) (acc ++ [x]) hd' (by omega) (by omega) (by simp; omega), hx]
   simp
  rw [F46o0_1, decide_eq_true (by omega : (p : Int) < (nodes.length : Int)), br_true, at_nat, hnd, bnd_some']
  by_cases k3 : nd.Kind = 3
  ·obtain ⟨c1, c2, c3, c4⟩ := hV.2.2 (.inl k3)
   rw [show (nd.Kind == 3) = true by simp [k3], br_true]
   simp only [F46o0_2, F46o0_3, br_true, bnd_some']
   rw [w64 (by omega) (by omega), w64 (by omega) (by omega)]
   exact fin _ (by unfold shN; rw [if_pos (.inl k3)])
  rw [show (nd.Kind == 3) = false by simp [k3], br_false]
  by_cases k4 : nd.Kind = 4
  ·obtain ⟨c1, c2, c3, c4⟩ := hV.2.2 (.inr k4)
   rw [show (nd.Kind == 4) = true by simp [k4]]
   simp only [F46o0_2, F46o0_3, br_true, bnd_some']
   rw [w64 (by omega) (by omega), w64 (by omega) (by omega)]
   exact fin _ (by unfold shN; rw [if_pos (.inr k4)])
  rw [show (nd.Kind == 4) = false by simp [k4]]
  simp only [F46o0_2, br_false, bnd_some']
  by_cases k5 : nd.Kind = 5
  ·obtain ⟨c1, c2⟩ := hV.2.1 k5
   rw [show (nd.Kind == 5) = true by simp [k5]]
   simp only [F46o0_3, br_true, bnd_some']
   rw [w64 (by omega) (by omega)]
   exact fin _ (by unfold shN; rw [if_neg (by omega), if_pos k5])
  ·rw [show (nd.Kind == 5) = false by simp [k5]]
   simp only [F46o0_3, br_false, bnd_some']
   exact fin _ (by unfold shN; rw [if_neg (by omega), if_neg k5])

def Tr (nodes : List S59) : Prop := whole nodes = true ∧ (∀ nd ∈ nodes, bareN nd = true) ∧ (∀ nd ∈ nodes, WF nd.Class)
theorem F46_spec {k : Nat} (acc nodes : List S59) (h : whole nodes = true) (hN : nodes.length ≤ 1000) (ha : acc.length ≤ 1000) (hk : 1010 < k) : F46o0 k acc (S23.mk nodes) = some (acc ++ nodes.map (shN (acc.length : Nat))) := by
 unfold F46o0
 have := F46_1_spec k acc.length ha nodes hN (whole_valid h).2 nodes k 0 acc rfl (by simp) (by omega) (by omega)
 rw [show ((0 : Nat) : Int) = 0 from rfl] at this
 rw [this]; rfl
def eN : S59 := S59.mk 1 (fun _ => (0 : Int)) 0 0 0 0 false
def mayN (nodes : List S59) : List S59 := if whole nodes = true then nodes else [eN]
theorem F47_spec {k : Nat} (t : S23) (hN : t.Nodes.length ≤ 1000) (hk : 1010 < k) : F47 k t = some (S23.mk (mayN t.Nodes)) := by
 unfold F47 mayN
 rw [F44_spec t hN (by omega), bnd_some']
 cases whole t.Nodes <;> rfl
theorem map_zero (nodes : List S59) : nodes.map (shN ((0 : Nat) : Int)) = nodes := by
 have : shN ((0 : Nat) : Int) = id := funext fun nd => shN_zero nd
 rw [this, List.map_id]
def joinN (K : Int) (a b : List S59) : List S59 := a ++ b.map (shN (a.length : Nat)) ++ [S59.mk K (fun _ => (0 : Int)) ((a.length : Int) - 1) ((a.length + b.length : Nat) - 1 : Int) 0 0 false]
def repN (a : List S59) (l m : Int) (z : Bool) : List S59 := a ++ [S59.mk 5 (fun _ => (0 : Int)) ((a.length : Int) - 1) 0 l m z]
theorem joinN_len (K : Int) (a b : List S59) : (joinN K a b).length = a.length + b.length + 1 := by simp [joinN]; omega
theorem repN_len (a : List S59) (l m : Int) (z : Bool) : (repN a l m z).length = a.length + 1 := by simp [repN]
theorem F48_spec {k : Nat} (K : Int) (hK : K = 3 ∨ K = 4) (a b : List S59) (ha : whole a = true) (hb : whole b = true) (hNa : a.length ≤ 400) (hNb : b.length ≤ 400) (hk : 1010 < k) : F48 k K (S23.mk a) (S23.mk b) = some (S23.mk (joinN K a b)) := by
 have ea : F47 k (S23.mk a) = some (S23.mk a) := by rw [F47_spec _ (by simp; omega) hk]; simp [mayN, ha]
 have eb : F47 k (S23.mk b) = some (S23.mk b) := by rw [F47_spec _ (by simp; omega) hk]; simp [mayN, hb]
 have e1 : F46o0 k [] (S23.mk a) = some a := by rw [F46_spec [] a ha (by omega) (by simp) hk]; simp [shN_zero, show shN (0 : Int) = id from funext shN_zero]
 have e2 : F46o0 k a (S23.mk b) = some (a ++ b.map (shN (a.length : Nat))) := F46_spec a b hb (by omega) (by omega) hk
 have tail : (req (fits ((a ++ b.map (shN (a.length : Nat))).length + ([(S59.mk K (fun _ => (0 : Int)) (IntKind.i64.wrap ((a.length : Int) - 1)) (IntKind.i64.wrap ((((a ++ b.map (shN (a.length : Nat))).length : Nat) : Int) - 1)) 0 0 false)] : List S59).length) 80) <|
   some (S23.mk ((a ++ b.map (shN (a.length : Nat))) ++ [S59.mk K (fun _ => (0 : Int)) (IntKind.i64.wrap ((a.length : Int) - 1)) (IntKind.i64.wrap ((((a ++ b.map (shN (a.length : Nat))).length : Nat) : Int) - 1)) 0 0 false]))) = some (S23.mk (joinN K a b)) := by
  rw [req_pos (fit (by simp; omega) (by omega)), wm1 _ (by omega), wm1 _ (by simp; omega)]
  simp [joinN]
 unfold F48
 rcases hK with rfl | rfl
 ·rw [show ((3 : Int) != 3) = false from rfl, br_false, ea, bnd_some', e1, bnd_some', eb, bnd_some', e2, bnd_some']
  exact tail
 ·rw [show ((4 : Int) != 3) = true from rfl, br_true, show ((4 : Int) != 4) = false from rfl, br_false, ea, bnd_some', e1, bnd_some', eb, bnd_some', e2, bnd_some']
  exact tail
theorem F21_spec {k : Nat} (t : S23) (l m : Int) (z : Bool) (hN : t.Nodes.length ≤ 400) (hk : 1010 < k) (hw : whole (mayN t.Nodes) = true) (hl : (mayN t.Nodes).length ≤ 400) : F21 k t l m z = some (S23.mk (repN (mayN t.Nodes) l m z)) := by
 unfold F21
 rw [F47_spec t (by omega) hk, bnd_some', F46_spec [] _ hw (by omega) (by simp) hk, bnd_some']
 simp only [List.nil_append, List.length_nil, map_zero]
 rw [req_pos (fit (by simp; omega) (by omega)), wm1 _ (by omega)]
 rfl

theorem szL_app : ∀ (r1 r2 : List S59) (acc : List Nat), szL (r1 ++ r2) acc = (szL r1 acc).bind (szL r2)
 | [], r2, acc => rfl
 | nd :: r1, r2, acc => by
  simp only [List.cons_append, szL]
  by_cases hg : good nd = true
  ·rw [if_pos hg, if_pos hg]
   cases nodeSize acc nd with
   | none => rfl
   | some s => exact szL_app r1 r2 _
  ·rw [if_neg hg, if_neg hg]; rfl
theorem getD_shift {pre acc : List Nat} {q : Nat} : (pre ++ acc).getD (pre.length + q) 0 = acc.getD q 0 := by
 simp [List.getD_eq_getElem?_getD, List.getElem?_append_right]
theorem size_sh {pre acc : List Nat} {nd : S59} {s : Nat} (hi : Inv acc) (h : nodeSize acc nd = some s) : nodeSize (pre ++ acc) (shN (pre.length : Nat) nd) = some s := by
 unfold nodeSize at h ⊢
 rw [shN_kind]
 by_cases k5 : nd.Kind = 5
 ·rw [if_pos k5] at h ⊢
  split at h
  ·rename_i c
   cases h
   have e : (shN (pre.length : Nat) nd).A = nd.A + (pre.length : Int) := by unfold shN; rw [if_neg (by omega), if_pos k5]
   rw [e, List.length_append, if_pos (by omega), show pre.length + acc.length - 1 = pre.length + (acc.length - 1) by omega, getD_shift]
  ·cases h
 ·rw [if_neg k5] at h ⊢
  by_cases k34 : nd.Kind = 3 ∨ nd.Kind = 4
  ·rw [if_pos k34] at h ⊢
   split at h
   ·rename_i c
    cases h
    have eA : (shN (pre.length : Nat) nd).A = nd.A + (pre.length : Int) := by unfold shN; rw [if_pos k34]
    have eB : (shN (pre.length : Nat) nd).B = nd.B + (pre.length : Int) := by unfold shN; rw [if_pos k34]
    have g1 : (pre ++ acc).getD ((pre ++ acc).length - 1) 0 = acc.getD (acc.length - 1) 0 := by
     rw [List.length_append, show pre.length + acc.length - 1 = pre.length + (acc.length - 1) by omega, getD_shift]
    rw [g1, eA, eB, List.length_append, if_pos (by omega), show (nd.A + (pre.length : Int)).toNat = pre.length + nd.A.toNat by omega, getD_shift]
   ·cases h
  ·rw [if_neg k34] at h ⊢; exact h
theorem szL_sh {pre : List Nat} : ∀ (r : List S59) (acc L : List Nat), Inv acc → szL r acc = some L → szL (r.map (shN (pre.length : Nat))) (pre ++ acc) = some (pre ++ L)
 | [], acc, L, hi, h => by simp only [szL] at h; cases h; rfl
 | nd :: r, acc, L, hi, h => by
  simp only [szL, List.map_cons] at h ⊢
  rw [shN_good]
  split at h
  ·rename_i hg
   rw [if_pos hg]
   split at h
   ·rename_i s hs
    rw [size_sh hi hs]
    obtain ⟨h1, h2⟩ := nodeSize_inv hi hs
    have := szL_sh (pre := pre) r (acc ++ [s]) L (hi.app h1 h2) h
    show szL (r.map (shN (pre.length : Nat))) (pre ++ acc ++ [s]) = _
    rw [List.append_assoc]
    exact this
   ·cases h
  ·cases h
theorem Inv.nil : Inv [] := by intro j hj; simp at hj
theorem whole_sz {nodes : List S59} (h : whole nodes = true) : nodes ≠ [] ∧ ∃ L, szL nodes [] = some L ∧ L.length = nodes.length ∧ L.getD (nodes.length - 1) 0 = nodes.length := by
 unfold whole at h
 split at h
 ·rename_i L hs
  have hd := decide_eq_true_eq.mp h
  have hl := szL_len hs
  simp at hl
  rw [hl] at hd
  exact ⟨hd.1, L, hs, hl, hd.2⟩
 ·cases h
theorem whole_join {K : Int} (hK : K = 3 ∨ K = 4) {a b : List S59} (ha : whole a = true) (hb : whole b = true) : whole (joinN K a b) = true := by
 obtain ⟨a0, La, a1, a2, a3⟩ := whole_sz ha
 obtain ⟨b0, Lb, b1, b2, b3⟩ := whole_sz hb
 have pa : 0 < a.length := List.length_pos_iff.2 a0
 have pb : 0 < b.length := List.length_pos_iff.2 b0
 have e1 : szL (b.map (shN (a.length : Nat))) La = some (La ++ Lb) := by
  have := szL_sh (pre := La) b [] Lb Inv.nil b1
  rw [List.append_nil, a2] at this
  exact this
 have hgood : good (S59.mk K (fun _ => (0 : Int)) ((a.length : Int) - 1) ((a.length + b.length : Nat) - 1 : Int) 0 0 false) = true := by
  rcases hK with rfl | rfl <;> simp [good, zeroC]
 have g1 : (La ++ Lb).getD ((La ++ Lb).length - 1) 0 = b.length := by
  rw [List.length_append, show La.length + Lb.length - 1 = La.length + (Lb.length - 1) by omega, getD_shift, b2]; exact b3
 have g2 : (La ++ Lb).getD (a.length - 1) 0 = a.length := by
  have : (La ++ Lb).getD (a.length - 1) 0 = La.getD (a.length - 1) 0 := by
   simp only [List.getD_eq_getElem?_getD]
   rw [List.getElem?_append_left (by rw [a2]; omega)]
  rw [this]; exact a3
 have e2 : nodeSize (La ++ Lb) (S59.mk K (fun _ => (0 : Int)) ((a.length : Int) - 1) ((a.length + b.length : Nat) - 1 : Int) 0 0 false) = some (1 + b.length + a.length) := by
  unfold nodeSize
  simp only
  rw [if_neg (by omega), if_pos hK, g1, List.length_append, a2, b2, if_pos (by omega), show ((a.length : Int) - 1).toNat = a.length - 1 by omega, g2]
 have e3 : szL (joinN K a b) [] = some (La ++ Lb ++ [1 + b.length + a.length]) := by
  unfold joinN
  rw [szL_app, szL_app, a1]
  simp only [Option.bind_some, e1]
  rw [szL, if_pos hgood, e2]; rfl
 unfold whole
 rw [e3]
 simp only
 rw [decide_eq_true_eq]
 refine ⟨by simp [joinN], ?_⟩
 have : (La ++ Lb ++ [1 + b.length + a.length]).length = a.length + b.length + 1 := by simp [a2, b2]; omega
 rw [this, show a.length + b.length + 1 - 1 = (La ++ Lb).length by simp [a2, b2], getD_last]
 omega
theorem whole_rep {a : List S59} (ha : whole a = true) {l m : Int} {z : Bool} (r1 : 0 ≤ l) (r2 : l ≤ 1000) (r3 : m = -1 ∨ l ≤ m ∧ m ≤ 1000) : whole (repN a l m z) = true := by
 obtain ⟨a0, La, a1, a2, a3⟩ := whole_sz ha
 have pa : 0 < a.length := List.length_pos_iff.2 a0
 have hgood : good (S59.mk 5 (fun _ => (0 : Int)) ((a.length : Int) - 1) 0 l m z) = true := by
  simp [good, zeroC]; omega
 have e2 : nodeSize La (S59.mk 5 (fun _ => (0 : Int)) ((a.length : Int) - 1) 0 l m z) = some (1 + a.length) := by
  unfold nodeSize
  simp only
  rw [if_pos trivial, a2, if_pos (by omega), a3]
 have e3 : szL (repN a l m z) [] = some (La ++ [1 + a.length]) := by
  unfold repN
  rw [szL_app, a1]
  simp only [Option.bind_some]
  rw [szL, if_pos hgood, e2]; rfl
 unfold whole
 rw [e3]
 simp only
 rw [decide_eq_true_eq]
 refine ⟨by simp [repN], ?_⟩
 rw [show (La ++ [1 + a.length]).length - 1 = La.length by simp, getD_last]
 simp [a2]; omega
theorem anc_bare (nodes : List S59) (hb : ∀ nd ∈ nodes, bareN nd = true) : ∀ (i : Nat) (h d : List Bool), anc nodes i h d = true
 | 0, h, d => rfl
 | i + 1, h, d => by
  rw [anc]
  cases e : nodes[i]? with
  | none => rfl
  | some nd =>
   have := hb nd (List.mem_of_getElem? e)
   unfold bareN at this
   simp at this
   simp only
   rw [if_neg this.1, if_neg this.2]
   split
   ·exact anc_bare nodes hb i _ _
   ·split
    ·exact anc_bare nodes hb i _ _
    ·exact anc_bare nodes hb i _ _
theorem Tr.ok {nodes : List S59} (h : Tr nodes) : okTree nodes = true := by
 unfold okTree
 rw [h.1, anc_bare nodes h.2.1]; rfl
theorem Tr.join {K : Int} (hK : K = 3 ∨ K = 4) {a b : List S59} (ha : Tr a) (hb : Tr b) : Tr (joinN K a b) := by
 refine ⟨whole_join hK ha.1 hb.1, fun nd hm => ?_, fun nd hm => ?_⟩
 ·unfold joinN at hm
  rcases List.mem_append.1 hm with hm | hm
  ·rcases List.mem_append.1 hm with hm | hm
   ·exact ha.2.1 nd hm
   ·obtain ⟨x, hx, rfl⟩ := List.mem_map.1 hm
    rw [shN_bare]; exact hb.2.1 x hx
  ·obtain rfl := List.mem_singleton.1 hm
   rcases hK with rfl | rfl <;> rfl
 ·unfold joinN at hm
  rcases List.mem_append.1 hm with hm | hm
  ·rcases List.mem_append.1 hm with hm | hm
   ·exact ha.2.2 nd hm
   ·obtain ⟨x, hx, rfl⟩ := List.mem_map.1 hm
    rw [shN_class]; exact hb.2.2 x hx
  ·obtain rfl := List.mem_singleton.1 hm
   intro j _; simp
theorem Tr.rep {a : List S59} (ha : Tr a) {l m : Int} {z : Bool} (r1 : 0 ≤ l) (r2 : l ≤ 1000) (r3 : m = -1 ∨ l ≤ m ∧ m ≤ 1000) : Tr (repN a l m z) := by
 refine ⟨whole_rep ha.1 r1 r2 r3, fun nd hm => ?_, fun nd hm => ?_⟩
 ·unfold repN at hm
  rcases List.mem_append.1 hm with hm | hm
  ·exact ha.2.1 nd hm
  ·obtain rfl := List.mem_singleton.1 hm; rfl
 ·unfold repN at hm
  rcases List.mem_append.1 hm with hm | hm
  ·exact ha.2.2 nd hm
  ·obtain rfl := List.mem_singleton.1 hm
   intro j _; simp
theorem Tr.e : Tr [eN] := by
 refine ⟨by decide +kernel, fun nd hm => ?_, fun nd hm => ?_⟩
 ·obtain rfl := List.mem_singleton.1 hm; rfl
 ·obtain rfl := List.mem_singleton.1 hm
  intro j _; simp [eN]

theorem getD_shiftS {pre fs : List SP} {q : Nat} : (pre ++ fs).getD (pre.length + q) noS = fs.getD q noS := by
 simp [List.getD_eq_getElem?_getD, List.getElem?_append_right]
theorem nod_shift {k : Nat} {multi : Bool} {w : List Nat} {nd : S59} {pre fs : List SP} {q : Nat} (hV : Vn q nd) : nodS k multi w (shN (pre.length : Nat) nd) (pre ++ fs) = nodS k multi w nd fs := by
 unfold nodS
 rw [shN_kind]
 by_cases k3 : nd.Kind = 3
 ·obtain ⟨c1, c2, c3, c4⟩ := hV.2.2 (.inl k3)
  rw [if_pos k3, if_pos k3]
  unfold shN; rw [if_pos (.inl k3)]
  simp only
  rw [show (nd.A + (pre.length : Int)).toNat = pre.length + nd.A.toNat by omega, show (nd.B + (pre.length : Int)).toNat = pre.length + nd.B.toNat by omega, getD_shiftS, getD_shiftS]
 rw [if_neg k3, if_neg k3]
 by_cases k4 : nd.Kind = 4
 ·obtain ⟨c1, c2, c3, c4⟩ := hV.2.2 (.inr k4)
  rw [if_pos k4, if_pos k4]
  unfold shN; rw [if_pos (.inr k4)]
  simp only
  rw [show (nd.A + (pre.length : Int)).toNat = pre.length + nd.A.toNat by omega, show (nd.B + (pre.length : Int)).toNat = pre.length + nd.B.toNat by omega, getD_shiftS, getD_shiftS]
 rw [if_neg k4, if_neg k4]
 by_cases k5 : nd.Kind = 5
 ·obtain ⟨c1, c2⟩ := hV.2.1 k5
  rw [if_pos k5, if_pos k5]
  unfold shN; rw [if_neg (by omega), if_pos k5]
  simp only
  rw [show (nd.A + (pre.length : Int)).toNat = pre.length + nd.A.toNat by omega, getD_shiftS]
 ·rw [if_neg k5, if_neg k5, shN_class]
theorem mean_app (k : Nat) (multi : Bool) (w : List Nat) : ∀ (r1 r2 : List S59) (fs : List SP), meanL k multi w (r1 ++ r2) fs = meanL k multi w r2 (meanL k multi w r1 fs)
 | [], r2, fs => rfl
 | nd :: r1, r2, fs => by rw [List.cons_append, meanL, meanL, mean_app]
theorem mean_shift {k : Nat} {multi : Bool} {w : List Nat} {pre : List SP} (nodes : List S59) (hv : ∀ j nd, nodes[j]? = some nd → Vn j nd) : ∀ (r : List S59) (fs : List SP), nodes.drop fs.length = r → meanL k multi w (r.map (shN (pre.length : Nat))) (pre ++ fs) = pre ++ meanL k multi w r fs
 | [], fs, hd => rfl
 | nd :: r, fs, hd => by
  have hnd : nodes[fs.length]? = some nd := by
   have : (nodes.drop fs.length)[0]? = some nd := by rw [hd]; rfl
   rw [List.getElem?_drop] at this
   simpa using this
  have hd' : nodes.drop (fs.length + 1) = r := by
   have : (nodes.drop fs.length).tail = r := by rw [hd]; rfl
   rwa [List.tail_drop] at this
  rw [List.map_cons, meanL, meanL, nod_shift (hv _ nd hnd), List.append_assoc]
  exact mean_shift nodes hv r _ (by rw [List.length_append]; exact hd')
theorem span_tr {k : Nat} {multi : Bool} {w : List Nat} {nodes : List S59} (h : Tr nodes) : spanS k multi w nodes = (meanL k multi w nodes []).getD (nodes.length - 1) noS := by
 unfold spanS
 rw [if_pos h.ok]
theorem getD_left {fs gs : List SP} {q : Nat} (h : q < fs.length) : (fs ++ gs).getD q noS = fs.getD q noS := by
 simp [List.getD_eq_getElem?_getD, List.getElem?_append_left h]
theorem span_join {k : Nat} {multi : Bool} {w : List Nat} {K : Int} (hK : K = 3 ∨ K = 4) {a b : List S59} (ha : Tr a) (hb : Tr b) :
  spanS k multi w (joinN K a b) = (if K = 3 then seqS w.length (spanS k multi w a) (spanS k multi w b) else altS (spanS k multi w a) (spanS k multi w b)) := by
 rw [span_tr (Tr.join hK ha hb), span_tr ha, span_tr hb]
 have pa : 0 < a.length := List.length_pos_iff.2 (whole_sz ha.1).1
 have pb : 0 < b.length := List.length_pos_iff.2 (whole_sz hb.1).1
 have la := meanL_len k multi w a []
 have lb := meanL_len k multi w b []
 simp at la lb
 have e : meanL k multi w (b.map (shN (a.length : Nat))) (meanL k multi w a []) = meanL k multi w a [] ++ meanL k multi w b [] := by
  have := mean_shift (k := k) (multi := multi) (w := w) (pre := meanL k multi w a []) b (whole_valid hb.1).2 b [] rfl
  rw [List.append_nil, la] at this
  exact this
 have hl : (joinN K a b).length - 1 = (meanL k multi w a [] ++ meanL k multi w b []).length := by rw [joinN_len]; simp [la, lb]
 rw [hl]
 unfold joinN
 rw [mean_app, mean_app, e]
 simp only [meanL]
 rw [getD_snoc, if_neg (by omega), if_pos rfl]
 unfold nodS
 simp only
 have eA : (meanL k multi w a [] ++ meanL k multi w b []).getD ((a.length : Int) - 1).toNat noS = (meanL k multi w a []).getD (a.length - 1) noS := by
  rw [show ((a.length : Int) - 1).toNat = a.length - 1 by omega, getD_left (by omega)]
 have eB : (meanL k multi w a [] ++ meanL k multi w b []).getD (((a.length + b.length : Nat) : Int) - 1).toNat noS = (meanL k multi w b []).getD (b.length - 1) noS := by
  rw [show (((a.length + b.length : Nat) : Int) - 1).toNat = (meanL k multi w a []).length + (b.length - 1) by omega, getD_shiftS]
 rcases hK with rfl | rfl
 ·rw [if_pos rfl, if_pos rfl, eA, eB]
 ·rw [if_neg (by omega), if_pos rfl, if_neg (by omega), eA, eB]
theorem span_rep {k : Nat} {multi : Bool} {w : List Nat} {a : List S59} (ha : Tr a) {l m : Int} {z : Bool} (r1 : 0 ≤ l) (r2 : l ≤ 1000) (r3 : m = -1 ∨ l ≤ m ∧ m ≤ 1000) : spanS k multi w (repN a l m z) = repS w.length k (spanS k multi w a) l m := by
 rw [span_tr (Tr.rep ha r1 r2 r3), span_tr ha]
 have pa : 0 < a.length := List.length_pos_iff.2 (whole_sz ha.1).1
 have la := meanL_len k multi w a []
 simp at la
 rw [show (repN a l m z).length - 1 = (meanL k multi w a []).length by rw [repN_len, la]; omega]
 unfold repN
 rw [mean_app]
 simp only [meanL]
 rw [getD_snoc, if_neg (by omega), if_pos rfl]
 unfold nodS
 simp only
 rw [if_neg (by omega), if_neg (by omega), if_pos trivial, show ((a.length : Int) - 1).toNat = a.length - 1 by omega]
theorem span_e (k : Nat) (multi : Bool) (w : List Nat) : spanS k multi w [eN] = idS := by
 rw [span_tr Tr.e]
 simp only [meanL, List.nil_append, List.length_singleton]
 show nodS k multi w eN [] = idS
 simp [nodS, eN, leafS]
theorem eq_tb {n : Nat} {f g : SP} (h : ∀ a b, b ≤ n → (f a b = true ↔ g a b = true)) : tb n f = tb n g := tb_ext fun a b _ hb => Bool.eq_iff_iff.2 (h a b hb)
theorem alt_or {f g : SP} {a b : Nat} : altS f g a b = true ↔ f a b = true ∨ g a b = true := by simp [altS]
theorem id_iff {a b : Nat} : idS a b = true ↔ a = b := by simp [diagS]
theorem F13_tr {k : Nat} {nodes : List S59} (h : Tr nodes) (multi : Bool) (w : List Nat) (hB : Bn w) (hw : w.length ≤ 1000) (hk : 1010 < k) (hN : nodes.length ≤ 1000) : F13 k (S23.mk nodes) multi (cs w) = some (tb w.length (spanS k multi w nodes)) :=
 F13_spec (S23.mk nodes) multi w hB hw hk hN h.2.2
theorem F25_spec {k : Nat} {x y : List S59} (hx : Tr x) (hy : Tr y) (w : List Nat) (hB : Bn w) (hw : w.length ≤ 1000) (hk : 1010 < k) (nx : x.length ≤ 1000) (ny : y.length ≤ 1000)
  (h : tb w.length (spanS k false w x) = tb w.length (spanS k false w y)) : F25 k (S23.mk x) (S23.mk y) (cs w) = some true := by
 unfold F25
 rw [F13_tr hx false w hB hw hk nx, bnd_some', F13_tr hy false w hB hw hk ny, bnd_some', h, F12_self _ hw (by omega), bnd_some']
theorem F23_spec {k : Nat} {a b : List S59} (ha : Tr a) (hb : Tr b) (na : a.length ≤ 400) (nb : b.length ≤ 400) (hk : 1010 < k) : F23 k (S23.mk a) (S23.mk b) = some (S23.mk (joinN 3 a b)) := by
 unfold F23; rw [F48_spec 3 (.inl rfl) a b ha.1 hb.1 na nb hk]; rfl
theorem F24_spec {k : Nat} {a b : List S59} (ha : Tr a) (hb : Tr b) (na : a.length ≤ 400) (nb : b.length ≤ 400) (hk : 1010 < k) : F24 k (S23.mk a) (S23.mk b) = some (S23.mk (joinN 4 a b)) := by
 unfold F24; rw [F48_spec 4 (.inr rfl) a b ha.1 hb.1 na nb hk]; rfl
theorem cat_tr {a b : List S59} (ha : Tr a) (hb : Tr b) : Tr (joinN 3 a b) := Tr.join (.inl rfl) ha hb
theorem alt_tr {a b : List S59} (ha : Tr a) (hb : Tr b) : Tr (joinN 4 a b) := Tr.join (.inr rfl) ha hb
theorem cat_sp {k : Nat} {multi : Bool} {w : List Nat} {a b : List S59} (ha : Tr a) (hb : Tr b) : spanS k multi w (joinN 3 a b) = seqS w.length (spanS k multi w a) (spanS k multi w b) := by rw [span_join (.inl rfl) ha hb, if_pos rfl]
theorem alt_sp {k : Nat} {multi : Bool} {w : List Nat} {a b : List S59} (ha : Tr a) (hb : Tr b) : spanS k multi w (joinN 4 a b) = altS (spanS k multi w a) (spanS k multi w b) := by rw [span_join (.inr rfl) ha hb, if_neg (by omega)]
theorem e_F22 : F22 = some (S23.mk [eN]) := rfl
theorem star_rep {n k : Nat} {f : SP} {a b : Nat} (hn : n ≤ 1000) (hk : 1010 < k) (hb : b ≤ n) : repS n k f 0 (-1) a b = true ↔ Star f a b := by
 rw [rep_iff hn hk (by omega) (by omega) (.inl rfl) hb]
 constructor
 ·rintro ⟨c, _, h, h'⟩
  rw [if_pos rfl] at h'
  have : a = c := h
  subst this; exact h'
 ·intro h
  obtain ⟨M, hM⟩ := h
  exact ⟨a, path_le hM, rfl, by rw [if_pos rfl]; exact ⟨M, hM⟩⟩
theorem star_step {f : SP} {b : Nat} : ∀ {M a : Nat}, Path (altS f idS) M a b → a = b ∨ ∃ q, a ≤ q ∧ q ≤ b ∧ f a q = true ∧ Path (altS f idS) M q b
 | 0, a, h => .inl h
 | M + 1, a, h => by
  obtain ⟨c, c1, c2, c3, c4⟩ := h
  rcases alt_or.1 c3 with c3 | c3
  ·exact .inr ⟨c, c1, c2, c3, c, Nat.le_refl _, c2, opt_refl f c, c4⟩
  ·rw [id_iff] at c3
   subst c3
   rcases star_step c4 with h | ⟨q, q1, q2, q3, q4⟩
   ·exact .inl h
   ·exact .inr ⟨q, q1, q2, q3, q, Nat.le_refl _, q2, opt_refl f q, q4⟩
theorem rep_star {n k : Nat} (f : SP) (hn : n ≤ 1000) (hk : 1010 < k) : tb n (repS n k f 0 (-1)) = tb n (altS idS (seqS n f (repS n k f 0 (-1)))) := eq_tb fun a b hb => by
 rw [star_rep hn hk hb, alt_or, id_iff, seq_iff hb]
 constructor
 ·rintro ⟨M, hM⟩
  rcases star_step hM with h | ⟨q, q1, q2, q3, q4⟩
  ·exact .inl h
  ·exact .inr ⟨q, q1, q2, q3, (star_rep hn hk hb).2 ⟨M, q4⟩⟩
 ·rintro (h | ⟨q, q1, q2, q3, q4⟩)
  ·exact ⟨0, h⟩
  ·obtain ⟨M, hM⟩ := (star_rep hn hk hb).1 q4
   exact ⟨M + 1, q, q1, q2, alt_or.2 (.inl q3), hM⟩
def manyN (A : List S59) : Nat → List S59
 | 0 => [eN]
 | i + 1 => joinN 3 (manyN A i) A
def upN (A : List S59) : Nat → List S59
 | 0 => [eN]
 | i + 1 => joinN 4 [eN] (joinN 3 A (upN A i))
theorem many_tr {A : List S59} (h : Tr A) : ∀ i, Tr (manyN A i)
 | 0 => Tr.e
 | i + 1 => cat_tr (many_tr h i) h
theorem up_tr {A : List S59} (h : Tr A) : ∀ i, Tr (upN A i)
 | 0 => Tr.e
 | i + 1 => alt_tr Tr.e (cat_tr h (up_tr h i))
theorem many_len (A : List S59) : ∀ i, (manyN A i).length = 1 + i * (A.length + 1)
 | 0 => by simp [manyN]
 | i + 1 => by rw [manyN, joinN_len, many_len A i, Nat.add_mul]; omega
theorem up_len (A : List S59) : ∀ i, (upN A i).length = 1 + i * (A.length + 3)
 | 0 => by simp [upN]
 | i + 1 => by rw [upN, joinN_len, joinN_len, up_len A i, Nat.add_mul, List.length_singleton]; omega
theorem many_iff {k : Nat} {multi : Bool} {w : List Nat} {A : List S59} (h : Tr A) : ∀ (i : Nat) {a b : Nat}, b ≤ w.length → (spanS k multi w (manyN A i) a b = true ↔ Path (spanS k multi w A) i a b)
 | 0, a, b, hb => by rw [manyN, span_e, id_iff]; exact Iff.rfl
 | i + 1, a, b, hb => by
  rw [manyN, cat_sp (many_tr h i) h, seq_iff hb, path_add]
  constructor
  ·rintro ⟨q, q1, q2, q3, q4⟩
   exact ⟨q, (many_iff h i (by omega)).1 q3, b, q2, Nat.le_refl _, q4, rfl⟩
  ·rintro ⟨q, q3, c, c1, c2, c3, c4⟩
   have : c = b := c4
   subst this
   exact ⟨q, path_le q3, c1, (many_iff h i (by omega)).2 q3, c3⟩
theorem up_iff {k : Nat} {multi : Bool} {w : List Nat} {A : List S59} (h : Tr A) : ∀ (i : Nat) {a b : Nat}, b ≤ w.length → (spanS k multi w (upN A i) a b = true ↔ Path (altS (spanS k multi w A) idS) i a b)
 | 0, a, b, hb => by rw [upN, span_e, id_iff]; exact Iff.rfl
 | i + 1, a, b, hb => by
  rw [upN, alt_sp Tr.e (cat_tr h (up_tr h i)), span_e, cat_sp h (up_tr h i), alt_or, id_iff, seq_iff hb]
  constructor
  ·rintro (e | ⟨q, q1, q2, q3, q4⟩)
   ·subst e; exact path_refl (opt_refl _) a _
   ·exact ⟨q, q1, q2, alt_or.2 (.inl q3), (up_iff h i hb).1 q4⟩
  ·rintro ⟨c, c1, c2, c3, c4⟩
   rcases alt_or.1 c3 with c3 | c3
   ·exact .inr ⟨c, c1, c2, c3, (up_iff h i hb).2 c4⟩
   ·rw [id_iff] at c3
    subst c3
    rcases star_step c4 with e | ⟨q, q1, q2, q3, q4⟩
    ·exact .inl e
    ·exact .inr ⟨q, q1, q2, q3, (up_iff h i hb).2 q4⟩
theorem rep_many {k : Nat} {multi : Bool} {w : List Nat} {A : List S59} (h : Tr A) (hw : w.length ≤ 1000) (hk : 1010 < k) (l j : Nat) (hl : l ≤ 100) (hj : j ≤ 100) :
  tb w.length (repS w.length k (spanS k multi w A) (l : Int) ((l + j : Nat) : Int)) = tb w.length (seqS w.length (spanS k multi w (manyN A l)) (spanS k multi w (upN A j))) := eq_tb fun a b hb => by
 rw [rep_iff hw hk (by omega) (by omega) (.inr ⟨by omega, by omega⟩) hb, seq_iff hb, Int.toNat_natCast, show (((l + j : Nat) : Int) - (l : Int)).toNat = j by omega]
 constructor
 ·rintro ⟨c, c1, c2, c3⟩
  rw [if_neg (by omega)] at c3
  exact ⟨c, path_le c2, c1, (many_iff h l (by omega)).2 c2, (up_iff h j hb).2 c3⟩
 ·rintro ⟨c, c0, c1, c2, c3⟩
  exact ⟨c, c1, (many_iff h l (by omega)).1 c2, by rw [if_neg (by omega)]; exact (up_iff h j hb).1 c3⟩
theorem rep_inf {k : Nat} {multi : Bool} {w : List Nat} {A : List S59} (h : Tr A) (hw : w.length ≤ 1000) (hk : 1010 < k) (l : Nat) (hl : l ≤ 100) :
  tb w.length (repS w.length k (spanS k multi w A) (l : Int) (-1)) = tb w.length (seqS w.length (spanS k multi w (manyN A l)) (repS w.length k (spanS k multi w A) 0 (-1))) := eq_tb fun a b hb => by
 rw [rep_iff hw hk (by omega) (by omega) (.inl rfl) hb, seq_iff hb, Int.toNat_natCast]
 constructor
 ·rintro ⟨c, c1, c2, c3⟩
  rw [if_pos rfl] at c3
  exact ⟨c, path_le c2, c1, (many_iff h l (by omega)).2 c2, (star_rep hw hk hb).2 c3⟩
 ·rintro ⟨c, c0, c1, c2, c3⟩
  exact ⟨c, c1, (many_iff h l (by omega)).1 c2, by rw [if_pos rfl]; exact (star_rep hw hk hb).1 c3⟩

theorem getD_set_false {h : List Bool} {i j : Nat} (e : h.getD j false = false) : (h.set i false).getD j false = false := by
 simp only [List.getD_eq_getElem?_getD, List.getElem?_set] at *
 by_cases c : i = j
 ·subst c
  by_cases c2 : i < h.length <;> simp [c2]
 ·simp [c]; exact e
theorem anc_false (nodes : List S59) : ∀ (i : Nat) (h d : List Bool), i ≤ nodes.length → (∀ q, q < i → h.getD q false = false ∧ d.getD q false = false) → anc nodes i h d = true → ∀ j nd, j < i → nodes[j]? = some nd → bareN nd = true
 | 0, h, d, hi, hf, ha, j, nd, hj, hn => by omega
 | i + 1, h, d, hi, hf, ha, j, nd, hj, hn => by
  rw [anc] at ha
  cases e : nodes[i]? with
  | none => rw [List.getElem?_eq_getElem (by omega)] at e; cases e
  | some x =>
   rw [e] at ha
   simp only at ha
   obtain ⟨h1, h2⟩ := hf i (Nat.lt_succ_self i)
   have k6 : ¬ x.Kind = 6 := by
    intro c; rw [if_pos c, h1] at ha; simp at ha
   rw [if_neg k6] at ha
   have k7 : ¬ x.Kind = 7 := by
    intro c; rw [if_pos c, h2] at ha; simp at ha
   rw [if_neg k7] at ha
   have hf' : ∀ q, q < i → h.getD q false = false ∧ d.getD q false = false := fun q hq => hf q (by omega)
   by_cases c : j = i
   ·subst c
    rw [e] at hn; cases hn
    simp [bareN, k6, k7]
   ·have hj' : j < i := by omega
    split at ha
    ·rw [h1, h2] at ha
     exact anc_false nodes i _ _ (by omega) (fun q hq => ⟨getD_set_false (getD_set_false (hf' q hq).1), getD_set_false (getD_set_false (hf' q hq).2)⟩) ha j nd hj' hn
    ·split at ha
     ·rw [h1, h2] at ha
      exact anc_false nodes i _ _ (by omega) (fun q hq => ⟨getD_set_false (hf' q hq).1, getD_set_false (hf' q hq).2⟩) ha j nd hj' hn
     ·exact anc_false nodes i _ _ (by omega) hf' ha j nd hj' hn
theorem rep_bare {A : List S59} {l m : Int} {z : Bool} (h : okTree (repN A l m z) = true) : ∀ nd ∈ A, bareN nd = true := by
 unfold okTree at h
 rw [Bool.and_eq_true] at h
 have h2 := h.2
 rw [repN_len, anc] at h2
 have e : (repN A l m z)[A.length]? = some (S59.mk 5 (fun _ => (0 : Int)) ((A.length : Int) - 1) 0 l m z) := by simp [repN]
 rw [e] at h2
 simp only at h2
 rw [if_neg (by omega), if_neg (by omega), if_neg (by omega), if_neg (by omega)] at h2
 intro nd hm
 obtain ⟨j, hj⟩ := List.getElem?_of_mem hm
 have hjl := lt_of_get hj
 refine anc_false _ A.length _ _ (by rw [repN_len]; omega) (fun q hq => ?_) h2 j nd hjl (by unfold repN; rw [List.getElem?_append_left hjl]; exact hj)
 have : (rootB (A.length + 1)).getD q false = false := by
  unfold rootB
  simp only [List.getD_eq_getElem?_getD, List.getElem?_set, List.getElem?_replicate]
  rw [if_neg (by omega)]
  split <;> rfl
 exact ⟨this, this⟩
theorem mayN_whole (nodes : List S59) : whole (mayN nodes) = true := by
 unfold mayN
 split
 ·assumption
 ·exact Tr.e.1
theorem mayN_self {nodes : List S59} (h : whole nodes = true) : mayN nodes = nodes := by unfold mayN; rw [if_pos h]
theorem mayN_len (nodes : List S59) : (mayN nodes).length ≤ nodes.length + 1 := by
 unfold mayN
 split
 ·omega
 ·simp
theorem F48_may {k : Nat} (K : Int) (a b : List S59) (na : a.length ≤ 300) (nb : b.length ≤ 300) (hk : 1010 < k) : F48 k K (S23.mk a) (S23.mk b) = F48 k K (S23.mk (mayN a)) (S23.mk (mayN b)) := by
 have la := mayN_len a
 have lb := mayN_len b
 unfold F48
 rw [F47_spec (S23.mk a) (by simp; omega) hk, F47_spec (S23.mk b) (by simp; omega) hk, F47_spec (S23.mk (mayN a)) (by simp; omega) hk, F47_spec (S23.mk (mayN b)) (by simp; omega) hk]
 simp only [mayN_self (mayN_whole a), mayN_self (mayN_whole b)]
theorem F23_may {k : Nat} {a b : List S59} (ha : Tr (mayN a)) (hb : Tr (mayN b)) (na : a.length ≤ 300) (nb : b.length ≤ 300) (hk : 1010 < k) : F23 k (S23.mk a) (S23.mk b) = some (S23.mk (joinN 3 (mayN a) (mayN b))) := by
 have la := mayN_len a
 have lb := mayN_len b
 unfold F23; rw [F48_may 3 a b na nb hk, F48_spec 3 (.inl rfl) _ _ ha.1 hb.1 (by omega) (by omega) hk]; rfl

theorem F4_1_spec {k : Nat} (x9 x10 : Int) (N : List S59) (c : List Int) (hA : Tr (mayN N)) (hN : N.length ≤ 12) (hk : 1010 < k) (l : Nat) (hl : l ≤ 6) : ∀ (d m i : Nat), i + d = l → d < m →
  F4_1 k x9 x10 (l : Int) N c m (i : Int) (manyN (mayN N) i) = some (manyN (mayN N) l)
 | 0, m, i, hi, hm => by
  obtain ⟨m, rfl⟩ : ∃ m', m = m' + 1 := ⟨m - 1, by omega⟩
  rw [F4_1, decide_eq_false (by omega : ¬ (i : Int) < (l : Int)), br_false, show i = l by omega]
 | d + 1, m, i, hi, hm => by
  obtain ⟨m, rfl⟩ : ∃ m', m = m' + 1 := ⟨m - 1, by omega⟩
  have lm := many_len (mayN N) i
  have la := mayN_len N
  have hb : i * ((mayN N).length + 1) ≤ 6 * 14 := Nat.mul_le_mul (by omega) (by omega)
  have e : mayN (manyN (mayN N) i) = manyN (mayN N) i := mayN_self (many_tr hA i).1
  rw [F4_1, decide_eq_true (by omega : (i : Int) < (l : Int)), br_true, F23_may (by rw [e]; exact many_tr hA i) hA (by omega) (by omega) hk, bnd_some', step1 _ (by omega), e]
  exact F4_1_spec x9 x10 N c hA hN hk l hl d m (i + 1) (by omega) (by omega)
theorem F4_2_spec {k : Nat} (x9 x10 : Int) (N : List S59) (c : List Int) (o2 : List S59) (hA : Tr (mayN N)) (hN : N.length ≤ 12) (hk : 1010 < k) (l : Nat) (hl : l ≤ 6) : ∀ (d m i : Nat), i + d = l → d < m →
  F4_2 k x9 x10 (l : Int) N c o2 m (i : Int) (upN (mayN N) i) = some (upN (mayN N) l)
 | 0, m, i, hi, hm => by
  obtain ⟨m, rfl⟩ : ∃ m', m = m' + 1 := ⟨m - 1, by omega⟩
  rw [F4_2, decide_eq_false (by omega : ¬ (i : Int) < (l : Int)), br_false, show i = l by omega]
 | d + 1, m, i, hi, hm => by
  obtain ⟨m, rfl⟩ : ∃ m', m = m' + 1 := ⟨m - 1, by omega⟩
  have lm := up_len (mayN N) i
  have la := mayN_len N
  have hb : i * ((mayN N).length + 3) ≤ 6 * 16 := Nat.mul_le_mul (by omega) (by omega)
  have e : mayN (upN (mayN N) i) = upN (mayN N) i := mayN_self (up_tr hA i).1
  rw [F4_2, decide_eq_true (by omega : (i : Int) < (l : Int)), br_true, e_F22, bnd_some', F23_may hA (by rw [e]; exact up_tr hA i) (by omega) (by omega) hk, bnd_some', e,
   F24_spec Tr.e (cat_tr hA (up_tr hA i)) (by simp) (by rw [joinN_len]; omega) hk, bnd_some', step1 _ (by omega)]
  exact F4_2_spec x9 x10 N c o2 hA hN hk l hl d m (i + 1) (by omega) (by omega)
theorem meaningRepeatsA (x0 : S23) (x1 x2 : Int) (x3 : List Int) (w0 : W23 x0) (w1 : IntKind.u8.min ≤ x1 ∧ x1 ≤ IntKind.u8.max) (w2 : IntKind.u8.min ≤ x2 ∧ x2 ≤ IntKind.u8.max) (w3 : ∀ y ∈ x3, IntKind.u8.min ≤ y ∧ y ≤ IntKind.u8.max) : ∃ k, F4 k x0 x1 x2 x3 = some true := by
 obtain ⟨w, rfl, hB⟩ := cs_of w3
 obtain ⟨u, rfl, hu⟩ := byte_of w1
 obtain ⟨v, rfl, hv⟩ := byte_of w2
 refine ⟨2000, ?_⟩
 have t1 : IntKind.i64.wrap (Int.tmod (u : Int) 4) = ((u % 4 : Nat) : Int) := by rw [Int.tmod_eq_emod_of_nonneg (by omega), w64 (by omega) (by omega)]; omega
 have t2 : IntKind.i64.wrap (Int.tmod (v : Int) 4) = ((v % 4 : Nat) : Int) := by rw [Int.tmod_eq_emod_of_nonneg (by omega), w64 (by omega) (by omega)]; omega
 have t3 : IntKind.i64.wrap (((u % 4 : Nat) : Int) + ((v % 4 : Nat) : Int)) = ((u % 4 + v % 4 : Nat) : Int) := by rw [w64 (by omega) (by omega)]; omega
 have t4 : IntKind.i64.wrap (((u % 4 + v % 4 : Nat) : Int) - ((u % 4 : Nat) : Int)) = ((v % 4 : Nat) : Int) := by rw [w64 (by omega) (by omega)]; omega
 unfold F4
 rw [F10_spec, bnd_some']
 by_cases h0 : x0.Nodes.length ≤ 60 ∧ w.length ≤ 24
 case neg => rw [decide_eq_false h0]; rfl
 rw [decide_eq_true h0]
 simp only [Bool.not_true]
 rw [br_false]
 by_cases h12 : (x0.Nodes.length : Int) > 12
 ·rw [decide_eq_true h12]; rfl
 rw [decide_eq_false h12, br_false]
 obtain ⟨N⟩ := x0
 simp only at *
 have hk : 1010 < 2000 := by omega
 have hw : w.length ≤ 1000 := by omega
 have la := mayN_len N
 have F21_ : ∀ l m z, F21 2000 (S23.mk N) l m z = some (S23.mk (repN (mayN N) l m z)) := fun l m z => F21_spec (S23.mk N) l m z (by simp; omega) hk (mayN_whole N) (by simp; omega)
 rw [F21_, bnd_some', F20_spec _ (by simp [repN_len]; omega) (by omega), bnd_some', chk_ne]
 cases ok : okTree (repN (mayN N) 1 1 false)
 ·rfl
 have hA : Tr (mayN N) := ⟨mayN_whole N, rep_bare ok, fun nd hm => by
  unfold mayN at hm
  split at hm
  ·exact WT_of w0 nd hm
  ·exact Tr.e.2.2 nd hm⟩
 simp only [Bool.not_true]
 rw [br_false, e_F22, bnd_some', t1, t2, t3, t4]
 have m1 := F4_1_spec (k := 2000) ((u % 4 : Nat) : Int) ((u % 4 + v % 4 : Nat) : Int) N (cs w) hA (by omega) hk (u % 4) (by omega) (u % 4) 2000 0 (by omega) (by omega)
 have m2 := F4_2_spec (k := 2000) ((u % 4 : Nat) : Int) ((u % 4 + v % 4 : Nat) : Int) N (cs w) (manyN (mayN N) (u % 4)) hA (by omega) hk (v % 4) (by omega) (v % 4) 2000 0 (by omega) (by omega)
 rw [show ((0 : Nat) : Int) = 0 from rfl] at m1 m2
 rw [show (S23.mk [eN]).Nodes = manyN (mayN N) 0 from rfl, m1, bnd_some', show manyN (mayN N) 0 = upN (mayN N) 0 from rfl, m2, bnd_some', F21_, bnd_some', begun8, bnd_some', br_true, F21_, bnd_some']
 have lm := many_len (mayN N) (u % 4)
 have lu := up_len (mayN N) (v % 4)
 have hb1 : (u % 4) * ((mayN N).length + 1) ≤ 3 * 14 := Nat.mul_le_mul (by omega) (by omega)
 have hb2 : (v % 4) * ((mayN N).length + 3) ≤ 3 * 16 := Nat.mul_le_mul (by omega) (by omega)
 have tM := many_tr hA (u % 4)
 have tU := up_tr hA (v % 4)
 have tS : Tr (repN (mayN N) 0 (-1) false) := hA.rep (by omega) (by omega) (.inl rfl)
 have L := joinN_len
 have R := repN_len
 rw [F23_spec tM tU (by omega) (by omega) hk, bnd_some',
  F25_spec (hA.rep (by omega) (by omega) (.inr ⟨by omega, by omega⟩)) (cat_tr tM tU) w hB hw hk (by rw [R]; omega) (by rw [L]; omega)
   (by rw [span_rep hA (by omega) (by omega) (.inr ⟨by omega, by omega⟩), cat_sp tM tU]; exact rep_many hA hw hk _ _ (by omega) (by omega)), bnd_some', br_true,
  F23_may hA (by rw [mayN_self tS.1]; exact tS) (by omega) (by rw [R]; omega) hk, bnd_some', mayN_self tS.1,
  F24_spec Tr.e (cat_tr hA tS) (by simp) (by rw [L, R]; omega) hk, bnd_some',
  F25_spec tS (alt_tr Tr.e (cat_tr hA tS)) w hB hw hk (by rw [R]; omega) (by rw [L, L, R]; simp; omega)
   (by rw [alt_sp Tr.e (cat_tr hA tS), span_e, cat_sp hA tS, span_rep hA (by omega) (by omega) (.inl rfl)]; exact rep_star _ hw hk), bnd_some', br_true,
  F21_, bnd_some', F23_spec tM tS (by omega) (by rw [R]; omega) hk, bnd_some',
  F25_spec (hA.rep (by omega) (by omega) (.inl rfl)) (cat_tr tM tS) w hB hw hk (by rw [R]; omega) (by rw [L, R]; omega)
   (by rw [span_rep hA (by omega) (by omega) (.inl rfl), cat_sp tM tS, span_rep hA (by omega) (by omega) (.inl rfl)]; exact rep_inf hA hw hk _ (by omega)), bnd_some']
theorem meaningRepeats (x0 : S23) (x1 x2 : Int) (x3 : List Int) (w0 : W23 x0) (w1 : IntKind.u8.min ≤ x1 ∧ x1 ≤ IntKind.u8.max) (w2 : IntKind.u8.min ≤ x2 ∧ x2 ≤ IntKind.u8.max) (w3 : ∀ y ∈ x3, IntKind.u8.min ≤ y ∧ y ≤ IntKind.u8.max)
  (hsz : bkX [E23 x0, EI .u8 x1, EI .u8 x2, (EL 1 (EI .u8)) x3] ≤ 1048576) : ∃ k, F4 k x0 x1 x2 x3 = some true := meaningRepeatsA x0 x1 x2 x3 w0 w1 w2 w3

end Go.Ev
