/- The engine's part EvA: what a function's code does, told of values; no program in sight. Conditions: none. -/
import Derived.AtR
import Derived.Laws.Sem
import Derived.Laws.Cells
import Derived.Laws.CopyRow
import Derived.Laws.Tables
import Derived.Laws.IdiomCopy
import Derived.Laws.MakeOwn
import Derived.ArgAppend
import Derived.KernelRfl
set_option linter.unusedVariables false
set_option linter.unusedSimpArgs false
namespace Go.Ev

inductive D where
 | int (k : IntKind) (n : Int)
 | bool (b : Bool)
 | str (s : ByteArray)
 | sl (s : Nat) (xs : List (List D))
 | any
 | nl (s : Nat)
def mem (w : World) (blk i : Nat) : Option Value := w.cell? ⟨blk, i, none⟩
mutual
def RD (w : World) (Z : Nat → Prop) : Nat → D → Value → List Nat → Prop
 | _, .int k n, v, B => v = .int k n ∧ B = []
 | _, .bool b, v, B => v = .bool b ∧ B = []
 | _, .str s, v, B => v = .string s ∧ B = []
 | _, .any, v, B => v.oneCell' = true ∧ B = []
 | _, .nl s, v, B => v = .slice none 0 0 ∧ 1 ≤ s ∧ B = []
 | 0, .sl s xs, v, B => B = [] ∧ 1 ≤ s ∧ ∃ a cap, v = .slice a xs.length cap ∧ xs.length ≤ cap ∧
   (∀ p, a = some p → cap ≠ 0 → p.spot = none) ∧ (a = none → cap = 0) ∧
   (xs ≠ [] → ∃ p, a = some p ∧ Z p.block ∧ RX w Z 0 s xs p.block p.off [])
 | m + 1, .sl s xs, v, B => 1 ≤ s ∧ ((v = .slice none 0 0 ∧ xs = [] ∧ B = []) ∨
   ∃ blk off cap c e B', v = .slice (some ⟨blk, off, none⟩) xs.length cap ∧ xs.length ≤ cap ∧
    w.heap[blk]? = some (.cells c e (0, 0)) ∧ off + cap * s ≤ c.size ∧ B = blk :: B' ∧ RX w Z m s xs blk off B')
def RC (w : World) (Z : Nat → Prop) : Nat → List D → (Nat → Option Value) → Nat → List Nat → Prop
 | _, [], _, _, B => B = []
 | m, c :: cs, g, off, B => ∃ v B1 B2, g off = some v ∧ B = B1 ++ B2 ∧ RD w Z m c v B1 ∧ RC w Z m cs g (off + 1) B2
def RX (w : World) (Z : Nat → Prop) : Nat → Nat → List (List D) → Nat → Nat → List Nat → Prop
 | _, _, [], _, _, B => B = []
 | m, s, x :: xs, blk, off, B => ∃ B1 B2, x.length = s ∧ B = B1 ++ B2 ∧ RC w Z m x (mem w blk) off B1 ∧ RX w Z m s xs blk (off + s) B2
end
theorem mem_of_block {w w' : World} {b : Nat} (h : w'.heap[b]? = w.heap[b]?) : mem w' b = mem w b := by
 funext i; simp [mem, World.cell?, h]
mutual
theorem RD.mono {w w' : World} {Z Z' : Nat → Prop} (hZ : ∀ b, Z b → w'.heap[b]? = w.heap[b]?) (hz : ∀ b, Z b → Z' b) :
  ∀ (m : Nat) (x : D) (v : Value) (B : List Nat), (∀ b ∈ B, w'.heap[b]? = w.heap[b]?) → RD w Z m x v B → RD w' Z' m x v B
 | _, .int k n, v, B, hB, h => by simpa [RD] using h
 | _, .bool b, v, B, hB, h => by simpa [RD] using h
 | _, .str s, v, B, hB, h => by simpa [RD] using h
 | _, .any, v, B, hB, h => by simpa [RD] using h
 | _, .nl s, v, B, hB, h => by simpa [RD] using h
 | 0, .sl s xs, v, B, hB, h => by
  simp only [RD] at h ⊢
  obtain ⟨rfl, hs, a, cap, hv, hl, hp, hn, hx⟩ := h
  refine ⟨rfl, hs, a, cap, hv, hl, hp, hn, fun hne => ?_⟩
  obtain ⟨p, ha, hzp, hr⟩ := hx hne
  exact ⟨p, ha, hz _ hzp, RX.mono hZ hz 0 s xs p.block p.off [] (hZ _ hzp) (by simp) hr⟩
 | m + 1, .sl s xs, v, B, hB, h => by
  simp only [RD] at h ⊢
  obtain ⟨hs, h⟩ := h
  refine ⟨hs, ?_⟩
  rcases h with h | ⟨blk, off, cap, c, e, B', hv, hl, hh, ho, rfl, hr⟩
  ·exact .inl h
  ·refine .inr ⟨blk, off, cap, c, e, B', hv, hl, ?_, ho, rfl, ?_⟩
   ·rw [hB blk (by simp)]; exact hh
   ·exact RX.mono hZ hz m s xs blk off B' (hB blk (by simp)) (fun b hb => hB b (by simp [hb])) hr
theorem RC.mono {w w' : World} {Z Z' : Nat → Prop} (hZ : ∀ b, Z b → w'.heap[b]? = w.heap[b]?) (hz : ∀ b, Z b → Z' b) :
  ∀ (m : Nat) (cs : List D) (g : Nat → Option Value) (off : Nat) (B : List Nat), (∀ b ∈ B, w'.heap[b]? = w.heap[b]?) → RC w Z m cs g off B → RC w' Z' m cs g off B
 | _, [], g, off, B, hB, h => by simpa [RC] using h
 | m, c :: cs, g, off, B, hB, h => by
  simp only [RC] at h ⊢
  obtain ⟨v, B1, B2, hg, rfl, h1, h2⟩ := h
  exact ⟨v, B1, B2, hg, rfl, RD.mono hZ hz m c v B1 (fun b hb => hB b (by simp [hb])) h1, RC.mono hZ hz m cs g (off + 1) B2 (fun b hb => hB b (by simp [hb])) h2⟩
theorem RX.mono {w w' : World} {Z Z' : Nat → Prop} (hZ : ∀ b, Z b → w'.heap[b]? = w.heap[b]?) (hz : ∀ b, Z b → Z' b) :
  ∀ (m s : Nat) (xs : List (List D)) (blk off : Nat) (B : List Nat), w'.heap[blk]? = w.heap[blk]? → (∀ b ∈ B, w'.heap[b]? = w.heap[b]?) → RX w Z m s xs blk off B → RX w' Z' m s xs blk off B
 | _, _, [], blk, off, B, _, hB, h => by simpa [RX] using h
 | m, s, x :: xs, blk, off, B, hb, hB, h => by
  simp only [RX] at h ⊢
  obtain ⟨B1, B2, hl, rfl, h1, h2⟩ := h
  refine ⟨B1, B2, hl, rfl, ?_, RX.mono hZ hz m s xs blk (off + s) B2 hb (fun b hb => hB b (by simp [hb])) h2⟩
  rw [mem_of_block hb]
  exact RC.mono hZ hz m x _ off B1 (fun b hb => hB b (by simp [hb])) h1
end

-- appended to A: labels, values of slots, states
inductive PV where
 | d (x : D)
 | agg (cs : List D)
 | ptr (o off : Nat)
 | nilp
 | fn (f : FuncId) (cap : List PV)
 | nilfn
 | yl (l : Nat)
 | fp (cs : List D)       -- a pointer to cells that nobody writes any more
 | mf (f : FuncId) (cs : List D)       -- a method of a struct
inductive Lab where
 | free
 | frz
 | sl (t : Nat)
 | bx (i : Nat)
 | ce (i j : Nat)
 | ext
 | mk
 deriving DecidableEq
mutual
def RP (w : World) (Z : Nat → Prop) (φ : Nat → Nat) (n : Nat) : Nat → PV → Value → List Nat → Prop
 | m, .d x, v, B => RD w Z m x v B
 | m, .agg cs, v, B => ∃ vs : Array Value, v = .agg vs ∧ vs.size = cs.length ∧ RC w Z m cs (fun i => vs[i]?) 0 B
 | _, .ptr o off, v, B => v = .pointer (some ⟨φ o, off, none⟩) ∧ o < n ∧ B = []
 | _, .nilp, v, B => v = .pointer none ∧ B = []
 | _, .fn f cap, v, B => ∃ vs : List Value, v = .func (.func f) #[] vs.toArray ∧ B = [] ∧ RPs w Z φ n cap vs
 | _, .nilfn, v, B => v = .nilFunc ∧ B = []
 | _, .yl l, v, B => v = .func (.yield l) #[] #[] ∧ B = []
 | _, .fp cs, v, B => ∃ b off, v = .pointer (some ⟨b, off, none⟩) ∧ B = [] ∧ Z b ∧ RC w Z 0 cs (mem w b) off []
 | _, .mf f cs, v, B => ∃ vs : Array Value, v = .func (.func f) #[.agg vs] #[] ∧ B = [] ∧ vs.size = cs.length ∧ RC w Z 0 cs (fun i => vs[i]?) 0 []
def RPs (w : World) (Z : Nat → Prop) (φ : Nat → Nat) (n : Nat) : List PV → List Value → Prop
 | [], vs => vs = []
 | p :: ps, vs => ∃ v vs', vs = v :: vs' ∧ RP w Z φ n 0 p v [] ∧ RPs w Z φ n ps vs'
end
mutual
theorem RP.mono {w w' : World} {Z Z' : Nat → Prop} {φ φ' : Nat → Nat} {n n' : Nat} (hZ : ∀ b, Z b → w'.heap[b]? = w.heap[b]?) (hz : ∀ b, Z b → Z' b)
  (hφ : ∀ i, i < n → φ' i = φ i) (hn : n ≤ n') :
  ∀ (m : Nat) (x : PV) (v : Value) (B : List Nat), (∀ b ∈ B, w'.heap[b]? = w.heap[b]?) → RP w Z φ n m x v B → RP w' Z' φ' n' m x v B
 | m, .d x, v, B, hB, h => by
  simp only [RP] at h ⊢
  exact RD.mono hZ hz m x v B hB h
 | m, .agg cs, v, B, hB, h => by
  simp only [RP] at h ⊢
  obtain ⟨vs, hv, hl, h⟩ := h
  exact ⟨vs, hv, hl, RC.mono hZ hz m cs _ 0 B hB h⟩
 | _, .ptr o off, v, B, hB, h => by
  simp only [RP] at h ⊢
  obtain ⟨hv, ho, hb⟩ := h
  exact ⟨by rw [hφ o ho]; exact hv, Nat.lt_of_lt_of_le ho hn, hb⟩
 | _, .nilp, v, B, hB, h => by simpa only [RP] using h
 | _, .fn f cap, v, B, hB, h => by
  simp only [RP] at h ⊢
  obtain ⟨vs, hv, hb, h⟩ := h
  exact ⟨vs, hv, hb, RPs.mono hZ hz hφ hn cap vs h⟩
 | _, .nilfn, v, B, hB, h => by simpa only [RP] using h
 | _, .yl l, v, B, hB, h => by simpa only [RP] using h
 | _, .fp cs, v, B, hB, h => by
  simp only [RP] at h ⊢
  obtain ⟨b, off, hv, hb, hz1, h⟩ := h
  exact ⟨b, off, hv, hb, hz b hz1, by rw [mem_of_block (hZ b hz1)]; exact RC.mono hZ hz 0 cs _ off [] (by simp) h⟩
 | _, .mf f cs, v, B, hB, h => by
  simp only [RP] at h ⊢
  obtain ⟨vs, hv, hb, hl, h⟩ := h
  exact ⟨vs, hv, hb, hl, RC.mono hZ hz 0 cs _ 0 [] (by simp) h⟩
theorem RPs.mono {w w' : World} {Z Z' : Nat → Prop} {φ φ' : Nat → Nat} {n n' : Nat} (hZ : ∀ b, Z b → w'.heap[b]? = w.heap[b]?) (hz : ∀ b, Z b → Z' b)
  (hφ : ∀ i, i < n → φ' i = φ i) (hn : n ≤ n') :
  ∀ (ps : List PV) (vs : List Value), RPs w Z φ n ps vs → RPs w' Z' φ' n' ps vs
 | [], vs, h => by simpa only [RPs] using h
 | p :: ps, vs, h => by
  simp only [RPs] at h ⊢
  obtain ⟨v, vs', hv, h1, h2⟩ := h
  exact ⟨v, vs', hv, RP.mono hZ hz hφ hn 0 p v [] (by simp) h1, RPs.mono hZ hz hφ hn ps vs' h2⟩
end
mutual
theorem RD.freeze {w : World} {Z Z' : Nat → Prop} (hz : ∀ b, Z b → Z' b) :
  ∀ (m : Nat) (x : D) (v : Value) (B : List Nat), (∀ b ∈ B, Z' b) → RD w Z m x v B → RD w Z' 0 x v []
 | _, .int k n, v, B, hB, h => by simp only [RD] at h ⊢; exact ⟨h.1, trivial⟩
 | _, .bool b, v, B, hB, h => by simp only [RD] at h ⊢; exact ⟨h.1, trivial⟩
 | _, .str s, v, B, hB, h => by simp only [RD] at h ⊢; exact ⟨h.1, trivial⟩
 | _, .any, v, B, hB, h => by simp only [RD] at h ⊢; exact ⟨h.1, trivial⟩
 | _, .nl s, v, B, hB, h => by simp only [RD] at h ⊢; exact ⟨h.1, h.2.1, trivial⟩
 | 0, .sl s xs, v, B, hB, h => by
  have : B = [] := by simp only [RD] at h; exact h.1
  subst this
  exact RD.mono (fun _ _ => rfl) hz 0 _ v [] (by simp) h
 | m + 1, .sl s xs, v, B, hB, h => by
  simp only [RD] at h ⊢
  obtain ⟨hs, h⟩ := h
  refine ⟨trivial, hs, ?_⟩
  rcases h with ⟨rfl, rfl, rfl⟩ | ⟨blk, off, cap, c, e, B', rfl, hl, hh, ho, rfl, hr⟩
  ·exact ⟨none, 0, rfl, by simp, by simp, by simp, by simp⟩
  ·refine ⟨_, cap, rfl, hl, ?_, by simp, fun _ => ⟨_, rfl, hB blk (by simp), ?_⟩⟩
   ·rintro p hp _; cases hp; rfl
   ·exact RX.freeze hz m s xs blk off B' (fun b hb => hB b (by simp [hb])) hr
theorem RC.freeze {w : World} {Z Z' : Nat → Prop} (hz : ∀ b, Z b → Z' b) :
  ∀ (m : Nat) (cs : List D) (g : Nat → Option Value) (off : Nat) (B : List Nat), (∀ b ∈ B, Z' b) → RC w Z m cs g off B → RC w Z' 0 cs g off []
 | _, [], g, off, B, hB, h => by simp [RC]
 | m, c :: cs, g, off, B, hB, h => by
  simp only [RC] at h ⊢
  obtain ⟨v, B1, B2, hg, rfl, h1, h2⟩ := h
  exact ⟨v, [], [], hg, rfl, RD.freeze hz m c v B1 (fun b hb => hB b (by simp [hb])) h1, RC.freeze hz m cs g (off + 1) B2 (fun b hb => hB b (by simp [hb])) h2⟩
theorem RX.freeze {w : World} {Z Z' : Nat → Prop} (hz : ∀ b, Z b → Z' b) :
  ∀ (m s : Nat) (xs : List (List D)) (blk off : Nat) (B : List Nat), (∀ b ∈ B, Z' b) → RX w Z m s xs blk off B → RX w Z' 0 s xs blk off []
 | _, _, [], blk, off, B, hB, h => by simp [RX]
 | m, s, x :: xs, blk, off, B, hB, h => by
  simp only [RX] at h ⊢
  obtain ⟨B1, B2, hl, rfl, h1, h2⟩ := h
  exact ⟨[], [], hl, rfl, RC.freeze hz m x _ off B1 (fun b hb => hB b (by simp [hb])) h1, RX.freeze hz m s xs blk (off + s) B2 (fun b hb => hB b (by simp [hb])) h2⟩
end
theorem RP.freeze {w : World} {Z Z' : Nat → Prop} {φ : Nat → Nat} {n : Nat} (hz : ∀ b, Z b → Z' b) {m : Nat} {x : PV} {v : Value} {B : List Nat}
  (hB : ∀ b ∈ B, Z' b) (h : RP w Z φ n m x v B) : RP w Z' φ n 0 x v [] := by
 cases x with
 | d x => simp only [RP] at h ⊢; exact RD.freeze hz m x v B hB h
 | agg cs => simp only [RP] at h ⊢; obtain ⟨vs, hv, hl, h⟩ := h; exact ⟨vs, hv, hl, RC.freeze hz m cs _ 0 B hB h⟩
 | ptr o off => simp only [RP] at h ⊢; exact ⟨h.1, h.2.1, trivial⟩
 | nilp => simp only [RP] at h ⊢; exact ⟨h.1, trivial⟩
 | fn f cap => simp only [RP] at h ⊢; obtain ⟨vs, hv, hb, h⟩ := h; exact ⟨vs, hv, trivial, RPs.mono (fun _ _ => rfl) hz (fun _ _ => rfl) (Nat.le_refl _) cap vs h⟩
 | nilfn => simp only [RP] at h ⊢; exact ⟨h.1, trivial⟩
 | yl l => simp only [RP] at h ⊢; exact ⟨h.1, trivial⟩
 | fp cs =>
  simp only [RP] at h ⊢
  obtain ⟨b, off, hv, hb, hz1, h⟩ := h
  exact ⟨b, off, hv, trivial, hz b hz1, RC.mono (fun _ _ => rfl) hz 0 cs _ off [] (by simp) h⟩
 | mf f cs =>
  simp only [RP] at h ⊢
  obtain ⟨vs, hv, hb, hl, h⟩ := h
  exact ⟨vs, hv, trivial, hl, RC.mono (fun _ _ => rfl) hz 0 cs _ 0 [] (by simp) h⟩
theorem RX.get {w : World} {Z : Nat → Prop} : ∀ (m s : Nat) (xs : List (List D)) (blk off : Nat) (B : List Nat) (i : Nat) (x : List D),
  RX w Z m s xs blk off B → xs[i]? = some x → x.length = s ∧ ∃ B1 B0 B2, B = B0 ++ B1 ++ B2 ∧ RC w Z m x (mem w blk) (off + i * s) B1
 | m, s, [], blk, off, B, i, x, h, hx => by simp at hx
 | m, s, y :: xs, blk, off, B, 0, x, h, hx => by
  simp only [RX] at h
  obtain ⟨B1, B2, hl, rfl, h1, h2⟩ := h
  simp at hx; subst hx
  exact ⟨hl, B1, [], B2, by simp, by simpa using h1⟩
 | m, s, y :: xs, blk, off, B, i + 1, x, h, hx => by
  simp only [RX] at h
  obtain ⟨B1, B2, hl, rfl, h1, h2⟩ := h
  obtain ⟨hl', B1', B0, B2', hB, h⟩ := RX.get m s xs blk (off + s) B2 i x h2 (by simpa using hx)
  refine ⟨hl', B1', B1 ++ B0, B2', by rw [hB]; simp, ?_⟩
  have : off + (i + 1) * s = off + s + i * s := by rw [Nat.add_mul]; omega
  rw [this]; exact h
theorem RC.get {w : World} {Z : Nat → Prop} {g : Nat → Option Value} : ∀ (m : Nat) (cs : List D) (off : Nat) (B : List Nat) (o : Nat) (c : D),
  RC w Z m cs g off B → cs[o]? = some c → ∃ v B0 B1 B2, g (off + o) = some v ∧ B = B0 ++ B1 ++ B2 ∧ RD w Z m c v B1
 | m, [], off, B, o, c, h, hc => by simp at hc
 | m, y :: cs, off, B, 0, c, h, hc => by
  simp only [RC] at h
  obtain ⟨v, B1, B2, hg, rfl, h1, h2⟩ := h
  simp at hc; subst hc
  exact ⟨v, [], B1, B2, by simpa using hg, by simp, h1⟩
 | m, y :: cs, off, B, o + 1, c, h, hc => by
  simp only [RC] at h
  obtain ⟨v, B1, B2, hg, rfl, h1, h2⟩ := h
  obtain ⟨v', B0, B1', B2', hg', hB, h⟩ := RC.get m cs (off + 1) B2 o c h2 (by simpa using hc)
  exact ⟨v', B1 ++ B0, B1', B2', by rw [← hg']; congr 1; omega, by rw [hB]; simp, h⟩
theorem RC.drop {w : World} {Z : Nat → Prop} {g : Nat → Option Value} : ∀ (m : Nat) (cs : List D) (off : Nat) (o : Nat),
  RC w Z m cs g off [] → RC w Z m (cs.drop o) g (off + o) []
 | m, cs, off, 0, h => by simpa using h
 | m, [], off, o + 1, h => by simp [RC]
 | m, y :: cs, off, o + 1, h => by
  simp only [RC] at h
  obtain ⟨v, B1, B2, hg, hB, h1, h2⟩ := h
  obtain ⟨rfl, rfl⟩ := List.append_eq_nil_iff.1 hB.symm
  have := RC.drop m cs (off + 1) o h2
  simp only [List.drop_succ_cons]
  have e : off + (o + 1) = off + 1 + o := by omega
  rw [e]; exact this
theorem RC.take {w : World} {Z : Nat → Prop} {g : Nat → Option Value} : ∀ (m : Nat) (cs : List D) (off : Nat) (o : Nat),
  RC w Z m cs g off [] → RC w Z m (cs.take o) g off []
 | m, cs, off, 0, h => by simp [RC]
 | m, [], off, o + 1, h => by simp [RC]
 | m, y :: cs, off, o + 1, h => by
  simp only [RC, List.take_succ_cons] at h ⊢
  obtain ⟨v, B1, B2, hg, hB, h1, h2⟩ := h
  obtain ⟨rfl, rfl⟩ := List.append_eq_nil_iff.1 hB.symm
  exact ⟨v, [], [], hg, rfl, h1, RC.take m cs (off + 1) o h2⟩
theorem RX.drop {w : World} {Z : Nat → Prop} : ∀ (m s : Nat) (xs : List (List D)) (blk off : Nat) (o : Nat),
  RX w Z m s xs blk off [] → RX w Z m s (xs.drop o) blk (off + o * s) []
 | m, s, xs, blk, off, 0, h => by simpa using h
 | m, s, [], blk, off, o + 1, h => by simp [RX]
 | m, s, y :: xs, blk, off, o + 1, h => by
  simp only [RX] at h
  obtain ⟨B1, B2, hl, hB, h1, h2⟩ := h
  obtain ⟨rfl, rfl⟩ := List.append_eq_nil_iff.1 hB.symm
  have := RX.drop m s xs blk (off + s) o h2
  simp only [List.drop_succ_cons]
  have e : off + (o + 1) * s = off + s + o * s := by rw [Nat.add_mul]; omega
  rw [e]; exact this
theorem RX.take {w : World} {Z : Nat → Prop} : ∀ (m s : Nat) (xs : List (List D)) (blk off : Nat) (o : Nat),
  RX w Z m s xs blk off [] → RX w Z m s (xs.take o) blk off []
 | m, s, xs, blk, off, 0, h => by simp [RX]
 | m, s, [], blk, off, o + 1, h => by simp [RX]
 | m, s, y :: xs, blk, off, o + 1, h => by
  simp only [RX, List.take_succ_cons] at h ⊢
  obtain ⟨B1, B2, hl, hB, h1, h2⟩ := h
  obtain ⟨rfl, rfl⟩ := List.append_eq_nil_iff.1 hB.symm
  exact ⟨[], [], hl, rfl, h1, RX.take m s xs blk (off + s) o h2⟩


inductive Pl where
  | slot (t : Nat)
  | obj (i j : Nat)
  | el (p : Pl) (s i o : Nat)
def Pl.root : Pl → Lab
  | .slot t => .sl t
  | .obj i j => .ce i j
  | .el p _ _ _ => p.root
def Pl.Hd (w : World) (ow : Nat → Lab) (φ : Nat → Nat) (n : Nat) (ts : Array Value) : Pl → Value → Prop
  | .slot t, v => ts[t]? = some v
  | .obj i j, v => i < n ∧ ow (φ i) = .bx i ∧ mem w (φ i) j = some v
  | .el p s i o, v => ∃ a len cap, p.Hd w ow φ n ts (.slice (some a) len cap) ∧ ow a.block = p.root ∧ mem w a.block (a.off + i * s + o) = some v
theorem Pl.Hd.unique {w : World} {ow : Nat → Lab} {φ : Nat → Nat} {n : Nat} {ts : Array Value} : ∀ {p : Pl} {v v' : Value}, p.Hd w ow φ n ts v → p.Hd w ow φ n ts v' → v = v'
  | .slot t, v, v', h, h' => by simp only [Pl.Hd] at h h'; rw [h] at h'; exact Option.some.inj h'
  | .obj i j, v, v', h, h' => by simp only [Pl.Hd] at h h'; rw [h.2.2] at h'; exact Option.some.inj h'.2.2
  | .el p s i o, v, v', h, h' => by
    simp only [Pl.Hd] at h h'
    obtain ⟨a, len, cap, h1, _, h2⟩ := h
    obtain ⟨a', len', cap', h1', _, h2'⟩ := h'
    have := Pl.Hd.unique h1 h1'
    cases this
    rw [h2] at h2'
    exact Option.some.inj h2'
inductive It where
  | v (m : Nat) (p : PV)                     -- its value; m > 0: its slices are its own, so deep
  | nils                                     -- a slice that is nil
  | ap (s : Nat) (xs : List (List D))        -- a slice that may be appended to
  | tup (ps : List (Nat × PV))
  | b (p : Pl)                               -- the header that lies there
  | bc (p : Pl) (s lo n : Nat)               -- a cut of it
  | be (p : Pl) (s i o : Nat)                -- the address of a cell of an element
  | fa (cs : List D)                         -- the address of cells that nobody writes any more
  | kb (b : Bool)                            -- a bool that was decided
  | pi (o off : Nat)                         -- the address of a cell of an object, its place reckoned
  | nn (s : Nat) (xs : List (List D))        -- a frozen slice that is not nil
structure Ext where
  p : World → (Nat → Lab) → Prop
  lo : Nat
  le : ∀ w ow, p w ow → lo ≤ w.heap.size
  ok : ∀ w w' ow ow', (∀ b, ow b = .ext ∨ ow b = .frz → w'.heap[b]? = w.heap[b]? ∧ ow' b = ow b) → (∀ b, b < lo → ow b = .free → ow' b = .free) → w.heap.size ≤ w'.heap.size → p w ow → p w' ow'
def Ext.none : Ext := ⟨fun _ _ => True, 0, fun _ _ _ => Nat.zero_le _, fun _ _ _ _ _ _ _ _ => trivial⟩
structure St where
  env : List (Nat × It)
  objs : List (List (Nat × PV))
  ext : Ext
  marks : List Nat := []     -- the blocks of the deferred calls of ranges over functions
def Fz (ow : Nat → Lab) : Nat → Prop := fun b => ow b = .frz
def Own (w : World) (ow : Nat → Lab) (φ : Nat → Nat) (n : Nat) (m : Nat) (p : PV) (v : Value) (l : Lab) : Prop :=
  ∃ B : List Nat, RP w (Fz ow) φ n m p v B ∧ B.Nodup ∧ ∀ b ∈ B, ow b = l
def RTup (w : World) (ow : Nat → Lab) (φ : Nat → Nat) (n : Nat) : List (Nat × PV) → List Value → List Nat → Prop
  | [], vs, B => vs = [] ∧ B = []
  | (m, p) :: ps, vs, B => ∃ v vs' B1 B2, vs = v :: vs' ∧ B = B1 ++ B2 ∧ RP w (Fz ow) φ n m p v B1 ∧ RTup w ow φ n ps vs' B2
def RV (w : World) (ow : Nat → Lab) (φ : Nat → Nat) (n : Nat) (ts : Array Value) (l : Lab) : It → Value → Prop
  | .v m p, v => Own w ow φ n m p v l
  | .nils, v => v = .slice none 0 0
  | .ap s xs, v => Own w ow φ n 1 (.d (.sl s xs)) v l ∨
      (∃ a, v = .slice a xs.length xs.length ∧ RD w (Fz ow) 0 (.sl s xs) (.slice a xs.length xs.length) [])
  | .tup ps, v => ∃ vs B, v = .tuple vs ∧ RTup w ow φ n ps vs.toList B ∧ B.Nodup ∧ ∀ b ∈ B, ow b = l
  | .b p, v => p.Hd w ow φ n ts v
  | .bc p s lo k, v => (p.Hd w ow φ n ts (.slice none 0 0) ∧ k = 0 ∧ lo = 0 ∧ v = .slice none 0 0) ∨
      ∃ a len cap a' cap', p.Hd w ow φ n ts (.slice (some a) len cap) ∧ (cap ≠ 0 → a.spot = none) ∧ (cap' ≠ 0 → a'.spot = none) ∧ v = .slice (some a') k cap' ∧ a'.block = a.block ∧
        lo + cap' = cap ∧ k ≤ cap' ∧ (a'.off = a.off + lo * s ∨ cap' = 0)
  | .be p s i o, v => ∃ a len cap, p.Hd w ow φ n ts (.slice (some a) len cap) ∧ a.spot = none ∧ v = .pointer (some ⟨a.block, a.off + i * s + o, none⟩)
  | .kb b, v => v = .bool b
  | .pi o off, v => v = .pointer (some ⟨φ o, off, none⟩) ∧ o < n
  | .nn s xs, v => RD w (Fz ow) 0 (.sl s xs) v [] ∧ ∃ a k c, v = .slice (some a) k c
  | .fa cs, v => ∃ b off, v = .pointer (some ⟨b, off, none⟩) ∧ ow b = .frz ∧ RC w (Fz ow) 0 cs (mem w b) off []
def RIt (w : World) (ow : Nat → Lab) (φ : Nat → Nat) (n : Nat) (ts : Array Value) (t : Nat) (it : It) : Prop :=
  ∃ v, ts[t]? = some v ∧ RV w ow φ n ts (.sl t) it v
def RObj (w : World) (ow : Nat → Lab) (φ : Nat → Nat) (n : Nat) (i : Nat) (cs : List (Nat × PV)) : Prop :=
  ∃ c e, w.heap[φ i]? = some (.cells c e (0, 0)) ∧ c.size = cs.length ∧ ow (φ i) = .bx i ∧
    ∀ j m p, cs[j]? = some (m, p) → ∃ v, c[j]? = some v ∧ (∀ x, v ≠ .agg x) ∧ (∀ x, v ≠ .tuple x) ∧ Own w ow φ n m p v (.ce i j)
structure Rel (N : Nat) (w : World) (ow : Nat → Lab) (φ : Nat → Nat) (ts : Array Value) (st : St) : Prop where
  tsz : ts.size = N
  env : ∀ t it, (t, it) ∈ st.env → RIt w ow φ st.objs.length ts t it
  objs : ∀ i cs, st.objs[i]? = some cs → RObj w ow φ st.objs.length i cs
  ext : st.ext.p w ow
  bnd : ∀ b, ow b ≠ .free → b < w.heap.size
  marks : ∀ r, r ∈ st.marks → w.heap[r]? = some (.deferred (some [])) ∧ ow r = .mk
structure Mods (w : World) (ow : Nat → Lab) (w' : World) (ow' : Nat → Lab) : Prop where
  os : w'.os = w.os
  tape : w'.tape = w.tape
  output : w'.output = w.output
  size : w.heap.size ≤ w'.heap.size
  keep : ∀ b, b < w.heap.size → (ow b = .free ∨ ow b = .frz) → w'.heap[b]? = w.heap[b]? ∧ ow' b = ow b
theorem Mods.refl (w : World) (ow : Nat → Lab) : Mods w ow w ow := ⟨rfl, rfl, rfl, Nat.le_refl _, fun _ _ _ => ⟨rfl, rfl⟩⟩
theorem Mods.trans {w w1 w2 : World} {ow ow1 ow2 : Nat → Lab} (h : Mods w ow w1 ow1) (h' : Mods w1 ow1 w2 ow2) : Mods w ow w2 ow2 := by
  refine ⟨h'.os.trans h.os, h'.tape.trans h.tape, h'.output.trans h.output, Nat.le_trans h.size h'.size, fun b hb hl => ?_⟩
  obtain ⟨h1, h2⟩ := h.keep b hb hl
  obtain ⟨h3, h4⟩ := h'.keep b (Nat.lt_of_lt_of_le hb h.size) (by rw [h2]; exact hl)
  exact ⟨h3.trans h1, h4.trans h2⟩
structure Keep (S : List Lab) (w : World) (ow : Nat → Lab) (w' : World) (ow' : Nat → Lab) : Prop where
  os : w'.os = w.os
  tape : w'.tape = w.tape
  output : w'.output = w.output
  size : w.heap.size ≤ w'.heap.size
  free : ∀ b, b < w.heap.size → ow b = .free → w'.heap[b]? = w.heap[b]? ∧ ow' b = .free
  keep : ∀ b, ow b ≠ .free → ow b ∉ S → w'.heap[b]? = w.heap[b]? ∧ ow' b = ow b
theorem Keep.mods {S : List Lab} {w w' : World} {ow ow' : Nat → Lab} (h : Keep S w ow w' ow') (hS : Lab.frz ∉ S) : Mods w ow w' ow' :=
  ⟨h.os, h.tape, h.output, h.size, fun b hb hl => by
    rcases hl with hl | hl
    · rw [hl]; exact h.free b hb hl
    · rw [hl]; have := h.keep b (by rw [hl]; simp) (by rw [hl]; exact hS); rw [hl] at this; exact this⟩
def Pl.deps : Pl → List Lab
  | .slot _ => []
  | .obj i _ => [.bx i]
  | .el p _ _ _ => p.root :: p.deps
def Pl.base : Pl → Option Nat
  | .slot t => some t
  | .obj _ _ => none
  | .el p _ _ _ => p.base
def It.deps (l : Lab) : It → List Lab
  | .v m _ => if m = 0 then [] else [l]
  | .nils => []
  | .ap _ _ => [l]
  | .tup ps => if ps.all (fun p => p.1 == 0) then [] else [l]
  | .b p | .bc p _ _ _ | .be p _ _ _ => p.deps
  | .fa _ => []
  | .kb _ => []
  | .pi _ _ => []
  | .nn _ _ => []
def It.base : It → Option Nat
  | .b p | .bc p _ _ _ | .be p _ _ _ => p.base
  | _ => none
theorem RD.zeroB {w : World} {Z : Nat → Prop} {x : D} {v : Value} {B : List Nat} (h : RD w Z 0 x v B) : B = [] := by
  cases x <;> simp only [RD] at h
  · exact h.2
  · exact h.2
  · exact h.2
  · exact h.1
  · exact h.2
  · exact h.2.2
theorem RC.zeroB {w : World} {Z : Nat → Prop} {g : Nat → Option Value} : ∀ (cs : List D) (off : Nat) (B : List Nat), RC w Z 0 cs g off B → B = []
  | [], off, B, h => by simpa [RC] using h
  | c :: cs, off, B, h => by
    simp only [RC] at h
    obtain ⟨v, B1, B2, hg, rfl, h1, h2⟩ := h
    rw [RD.zeroB h1, RC.zeroB cs (off + 1) B2 h2]; rfl
theorem RP.zeroB {w : World} {Z : Nat → Prop} {φ : Nat → Nat} {n : Nat} {x : PV} {v : Value} {B : List Nat} (h : RP w Z φ n 0 x v B) : B = [] := by
  cases x <;> simp only [RP] at h
  · exact RD.zeroB h
  · obtain ⟨vs, hv, hl, h⟩ := h; exact RC.zeroB _ _ _ h
  · exact h.2.2
  · exact h.2
  · obtain ⟨vs, hv, hb, h⟩ := h; exact hb
  · exact h.2
  · exact h.2
  · obtain ⟨_, _, _, hb, _⟩ := h; exact hb
  · obtain ⟨_, _, hb, _⟩ := h; exact hb
section mono
variable {S : List Lab} {w w' : World} {ow ow' : Nat → Lab} {φ φ' : Nat → Nat} {n n' : Nat}
theorem Keep.z (h : Keep S w ow w' ow') (hS : Lab.frz ∉ S) : (∀ b, Fz ow b → w'.heap[b]? = w.heap[b]?) ∧ (∀ b, Fz ow b → Fz ow' b) :=
  ⟨fun b hb => (h.keep b (by rw [show ow b = .frz from hb]; simp) (by rw [show ow b = .frz from hb]; exact hS)).1,
   fun b hb => by have := (h.keep b (by rw [show ow b = .frz from hb]; simp) (by rw [show ow b = .frz from hb]; exact hS)).2; exact this.trans hb⟩
theorem Own.mono (h : Keep S w ow w' ow') (hS : Lab.frz ∉ S) (hφ : ∀ i, i < n → φ' i = φ i) (hn : n ≤ n') {m : Nat} {p : PV} {v : Value} {l : Lab}
    (hl : m = 0 ∨ l ∉ S) (hlf : l ≠ .free) (ho : Own w ow φ n m p v l) : Own w' ow' φ' n' m p v l := by
  obtain ⟨B, hr, hnd, hb⟩ := ho
  obtain ⟨z1, z2⟩ := h.z hS
  rcases hl with rfl | hl
  · obtain rfl := RP.zeroB hr
    exact ⟨[], RP.mono z1 z2 hφ hn 0 p v [] (by simp) hr, List.nodup_nil, by simp⟩
  · have key : ∀ b ∈ B, w'.heap[b]? = w.heap[b]? ∧ ow' b = ow b := fun b hm => h.keep b (by rw [hb b hm]; exact hlf) (by rw [hb b hm]; exact hl)
    exact ⟨B, RP.mono z1 z2 hφ hn m p v B (fun b hm => (key b hm).1) hr, hnd, fun b hm => (key b hm).2.trans (hb b hm)⟩
theorem RTup.mono (z1 : ∀ b, Fz ow b → w'.heap[b]? = w.heap[b]?) (z2 : ∀ b, Fz ow b → Fz ow' b) (hφ : ∀ i, i < n → φ' i = φ i) (hn : n ≤ n') :
    ∀ (ps : List (Nat × PV)) (vs : List Value) (B : List Nat), (∀ b ∈ B, w'.heap[b]? = w.heap[b]?) → RTup w ow φ n ps vs B → RTup w' ow' φ' n' ps vs B
  | [], vs, B, _, h => h
  | (m, p) :: ps, vs, B, hB, h => by
    obtain ⟨v, vs', B1, B2, hv, rfl, h1, h2⟩ := h
    exact ⟨v, vs', B1, B2, hv, rfl, RP.mono z1 z2 hφ hn m p v B1 (fun b hb => hB b (by simp [hb])) h1, RTup.mono z1 z2 hφ hn ps vs' B2 (fun b hb => hB b (by simp [hb])) h2⟩
end mono
theorem RTup.zeroB {w : World} {ow : Nat → Lab} {φ : Nat → Nat} {n : Nat} : ∀ {ps : List (Nat × PV)} {vs : List Value} {B : List Nat}, (ps.all (fun p => p.1 == 0)) = true → RTup w ow φ n ps vs B → B = []
  | [], vs, B, _, h => h.2
  | (m, p) :: ps, vs, B, ha, h => by
    simp only [List.all_cons, Bool.and_eq_true, beq_iff_eq] at ha
    obtain ⟨rfl, ha⟩ := ha
    obtain ⟨v, vs', B1, B2, hv, rfl, h1, h2⟩ := h
    rw [RP.zeroB h1, RTup.zeroB ha h2]; rfl
section keep
variable {S : List Lab} {w w' : World} {ow ow' : Nat → Lab} {φ φ' : Nat → Nat} {n n' : Nat} {ts ts' : Array Value}
theorem Pl.root_ne_free (p : Pl) : p.root ≠ .free := by
  induction p with
  | slot t => simp [Pl.root]
  | obj i j => simp [Pl.root]
  | el p s i o ih => simpa [Pl.root] using ih
theorem mem_keep (h : Keep S w ow w' ow') {b : Nat} (hf : ow b ≠ .free) (hs : ow b ∉ S) : mem w' b = mem w b := mem_of_block (h.keep b hf hs).1
theorem Pl.Hd.keep (h : Keep S w ow w' ow') (hφ : ∀ i, i < n → φ' i = φ i) (hn : n ≤ n') :
    ∀ (p : Pl) (v : Value), (∀ t, p.base = some t → ts'[t]? = ts[t]?) → (∀ l ∈ p.deps, l ∉ S) → p.Hd w ow φ n ts v → p.Hd w' ow' φ' n' ts' v
  | .slot t, v, ht, hd, hh => by
    simp only [Pl.Hd] at hh ⊢
    rw [ht t rfl]; exact hh
  | .obj i j, v, ht, hd, hh => by
    simp only [Pl.Hd] at hh ⊢
    obtain ⟨hi, hl, hm⟩ := hh
    have hS : ow (φ i) ∉ S := by rw [hl]; exact hd _ (by simp [Pl.deps])
    have hf : ow (φ i) ≠ .free := by rw [hl]; simp
    rw [hφ i hi]
    exact ⟨Nat.lt_of_lt_of_le hi hn, (h.keep _ hf hS).2.trans hl, by rw [mem_keep h hf hS]; exact hm⟩
  | .el p s i o, v, ht, hd, hh => by
    simp only [Pl.Hd] at hh ⊢
    obtain ⟨a, len, cap, hh, hl, hm⟩ := hh
    have hS : ow a.block ∉ S := by rw [hl]; exact hd _ (by simp [Pl.deps])
    have hf : ow a.block ≠ .free := by rw [hl]; exact p.root_ne_free
    refine ⟨a, len, cap, Pl.Hd.keep h hφ hn p _ ht (fun l hl => hd l (by simp [Pl.deps, hl])) hh, (h.keep _ hf hS).2.trans hl, ?_⟩
    rw [mem_keep h hf hS]; exact hm
theorem RV.keep (h : Keep S w ow w' ow') (hS : Lab.frz ∉ S) (hφ : ∀ i, i < n → φ' i = φ i) (hn : n ≤ n') {l : Lab} (hlf : l ≠ .free) {it : It} {v : Value}
    (hb : ∀ t', it.base = some t' → ts'[t']? = ts[t']?) (hd : ∀ l' ∈ it.deps l, l' ∉ S) (hr : RV w ow φ n ts l it v) : RV w' ow' φ' n' ts' l it v := by
  obtain ⟨z1, z2⟩ := h.z hS
  cases it with
  | v m p =>
    refine Own.mono h hS hφ hn ?_ hlf hr
    by_cases hm : m = 0
    · exact .inl hm
    · exact .inr (hd _ (by simp [It.deps, hm]))
  | nils => exact hr
  | ap s xs =>
    rcases hr with ho | ⟨a, ha, hr⟩
    · exact .inl (Own.mono h hS hφ hn (.inr (hd _ (by simp [It.deps]))) hlf ho)
    · exact .inr ⟨a, ha, RD.mono z1 z2 0 _ _ [] (by simp) hr⟩
  | tup ps =>
    obtain ⟨vs, B, hv, hr, hnd, hl⟩ := hr
    have key : ∀ b ∈ B, w'.heap[b]? = w.heap[b]? ∧ ow' b = ow b := by
      by_cases ha : (ps.all (fun p => p.1 == 0)) = true
      · rw [RTup.zeroB ha hr]; simp
      · have hS' : l ∉ S := hd _ (by simp only [It.deps]; rw [if_neg ha]; simp)
        exact fun b hm => h.keep b (by rw [hl b hm]; exact hlf) (by rw [hl b hm]; exact hS')
    exact ⟨vs, B, hv, RTup.mono z1 z2 hφ hn ps _ B (fun b hm => (key b hm).1) hr, hnd, fun b hm => (key b hm).2.trans (hl b hm)⟩
  | b p => exact Pl.Hd.keep h hφ hn p v hb hd hr
  | bc p s lo k =>
    rcases hr with ⟨hv, h1⟩ | ⟨a, len, cap, a', cap', hv, h1⟩
    · exact .inl ⟨Pl.Hd.keep h hφ hn p _ hb hd hv, h1⟩
    · exact .inr ⟨a, len, cap, a', cap', Pl.Hd.keep h hφ hn p _ hb hd hv, h1⟩
  | be p s i o =>
    obtain ⟨a, len, cap, hv, h1⟩ := hr
    exact ⟨a, len, cap, Pl.Hd.keep h hφ hn p _ hb hd hv, h1⟩
  | kb b => exact hr
  | nn s xs => exact ⟨RD.mono z1 z2 0 _ _ [] (by simp) hr.1, hr.2⟩
  | pi o off => exact ⟨by rw [hφ o hr.2]; exact hr.1, Nat.lt_of_lt_of_le hr.2 hn⟩
  | fa cs =>
    obtain ⟨b, off, hv, h1, h2⟩ := hr
    have hk := h.keep b (by rw [h1]; simp) (by rw [h1]; exact hS)
    exact ⟨b, off, hv, hk.2.trans h1, by rw [mem_of_block hk.1]; exact RC.mono z1 z2 0 cs _ off [] (by simp) h2⟩
theorem RIt.keep (h : Keep S w ow w' ow') (hS : Lab.frz ∉ S) (hφ : ∀ i, i < n → φ' i = φ i) (hn : n ≤ n') {t : Nat} {it : It}
    (ht : ts'[t]? = ts[t]?) (hb : ∀ t', it.base = some t' → ts'[t']? = ts[t']?) (hd : ∀ l ∈ it.deps (.sl t), l ∉ S) (hr : RIt w ow φ n ts t it) : RIt w' ow' φ' n' ts' t it := by
  obtain ⟨v, hv, hr⟩ := hr
  exact ⟨v, ht.trans hv, RV.keep h hS hφ hn (by simp) hb hd hr⟩
theorem RObj.keep (h : Keep S w ow w' ow') (hS : Lab.frz ∉ S) (hφ : ∀ i, i < n → φ' i = φ i) (hn : n ≤ n') {i : Nat} {cs : List (Nat × PV)} (hi : i < n)
    (hb : Lab.bx i ∉ S) (hc : ∀ j m p, cs[j]? = some (m, p) → m = 0 ∨ Lab.ce i j ∉ S) (hr : RObj w ow φ n i cs) : RObj w' ow' φ' n' i cs := by
  obtain ⟨c, e, hh, hsz, hl, hcs⟩ := hr
  have hk := h.keep (φ i) (by rw [hl]; simp) (by rw [hl]; exact hb)
  refine ⟨c, e, by rw [hφ i hi]; exact hk.1.trans hh, hsz, by rw [hφ i hi]; exact hk.2.trans hl, fun j m p hj => ?_⟩
  obtain ⟨v, h1, h2, h3, h4⟩ := hcs j m p hj
  exact ⟨v, h1, h2, h3, Own.mono h hS hφ hn (hc j m p hj) (by simp) h4⟩
end keep
def keeps (d : Option Nat) (S : List Lab) (e : Nat × It) : Bool := some e.1 != d && (e.2.base == none || e.2.base != d) && (e.2.deps (.sl e.1)).all (fun l => !S.contains l)
theorem keeps_spec {d : Option Nat} {S : List Lab} {e : Nat × It} (h : keeps d S e = true) : some e.1 ≠ d ∧ (∀ t, e.2.base = some t → some t ≠ d) ∧ ∀ l ∈ e.2.deps (.sl e.1), l ∉ S := by
  simp only [keeps, Bool.and_eq_true, bne_iff_ne, ne_eq, List.all_eq_true, Bool.not_eq_true', List.contains_eq_mem, decide_eq_false_iff_not, Bool.or_eq_true, beq_iff_eq] at h
  obtain ⟨⟨h1, h2⟩, h3⟩ := h
  refine ⟨h1, fun t ht e => ?_, h3⟩
  rw [ht] at h2
  rcases h2 with h2 | h2
  · simp at h2
  · exact h2 e
def putO (ts : Array Value) : Option Nat → Value → Array Value
  | some d, v => ts.setIfInBounds d v
  | none, _ => ts
theorem putO_size (ts : Array Value) (d : Option Nat) (v : Value) : (putO ts d v).size = ts.size := by cases d <;> simp [putO]
theorem putO_other {ts : Array Value} {d : Option Nat} {v : Value} {t : Nat} (h : some t ≠ d) : (putO ts d v)[t]? = ts[t]? := by
  cases d with
  | none => rfl
  | some d =>
    simp only [putO]
    rw [Array.getElem?_setIfInBounds]
    split
    · rename_i e; exact absurd (by rw [e]) h
    · rfl
theorem putO_same {ts : Array Value} {d : Nat} {v : Value} (h : d < ts.size) : (putO ts (some d) v)[d]? = some v := by
  simp [putO, h]
theorem Rel.step {N : Nat} {S : List Lab} {w w' : World} {ow ow' : Nat → Lab} {φ φ' : Nat → Nat} {ts : Array Value} {st : St} {d : Option Nat} {v : Value} {new : List (Nat × It)} {objs' : List (List (Nat × PV))}
    (h : Rel N w ow φ ts st) (hk : Keep S w ow w' ow') (hS : Lab.frz ∉ S) (hX : Lab.ext ∉ S) (hM : Lab.mk ∉ S) (hφ : ∀ i, i < st.objs.length → φ' i = φ i) (hn : st.objs.length ≤ objs'.length)
    (hnew : ∀ e ∈ new, RIt w' ow' φ' objs'.length (putO ts d v) e.1 e.2)
    (hobjs : ∀ i cs, objs'[i]? = some cs → (∃ cs0, st.objs[i]? = some cs0 ∧ cs = cs0 ∧ Lab.bx i ∉ S ∧ ∀ j m p, cs[j]? = some (m, p) → m = 0 ∨ Lab.ce i j ∉ S) ∨ RObj w' ow' φ' objs'.length i cs)
    (hbnd : ∀ b, ow' b ≠ .free → b < w'.heap.size) :
    Rel N w' ow' φ' (putO ts d v) { st with env := new ++ st.env.filter (keeps d S), objs := objs' } := by
  refine ⟨by rw [putO_size]; exact h.tsz, ?_, ?_, ?_, hbnd, fun r hm => ?_⟩
  · intro t it hm
    rcases List.mem_append.1 hm with hm | hm
    · exact hnew _ hm
    · obtain ⟨hm, hkp⟩ := List.mem_filter.1 hm
      obtain ⟨k1, k2, k3⟩ := keeps_spec hkp
      exact RIt.keep hk hS hφ hn (putO_other k1) (fun t' ht' => putO_other (k2 t' ht')) k3 (h.env t it hm)
  · intro i cs hc
    rcases hobjs i cs hc with ⟨cs0, h0, rfl, h1, h2⟩ | hr
    · have hi : i < st.objs.length := by
        rcases Nat.lt_or_ge i st.objs.length with hi | hi
        · exact hi
        · rw [List.getElem?_eq_none hi] at h0; simp at h0
      exact RObj.keep hk hS hφ hn hi h1 h2 (h.objs i _ h0)
    · exact hr
  · refine st.ext.ok w w' ow ow' (fun b hb => ?_) (fun b hb hf => (hk.free b (Nat.lt_of_lt_of_le hb (st.ext.le _ _ h.ext)) hf).2) hk.size h.ext
    have hf : ow b ≠ .free := by rcases hb with hb | hb <;> rw [hb] <;> simp
    have hs : ow b ∉ S := by rcases hb with hb | hb <;> rw [hb] <;> assumption
    exact hk.keep b hf hs
  · obtain ⟨h1, h2⟩ := h.marks r hm
    obtain ⟨h3, h4⟩ := hk.keep r (by rw [h2]; simp) (by rw [h2]; exact hM)
    exact ⟨h3.trans h1, h4.trans h2⟩


def evalT (ts : Array Value) : Operand → Value
 | .tmp t => ts.getD t undef
 | .const v => v
 | .global g => .pointer (some ⟨g, 0, none⟩)
 | .func f => .func (.func f) #[] #[]
theorem evalT_eq (ts : Array Value) (df : List Deferred) : (Act.mk ts df).eval = evalT ts := funext fun x => by cases x <;> rfl
theorem put_eq (ts : Array Value) (df : List Deferred) (dst : Option Tmp) (v : Value) : (Act.mk ts df).put dst v = ⟨putO ts dst v, df⟩ := by
 cases dst <;> rfl
def OpTo (P : Program) (o : Oper) (ts : Array Value) (w : World) (v : Value) (w' : World) : Prop :=
 ∀ (b : Frame) (df : List Deferred) (cs : List Frame) (ops : Array Oper) (i : Nat) (rest : List Nat) (k : List Item), ops[i]? = some o →
  Region.wanted o (yielded ops ts) = true →
  Steps P (lone (b.atR ⟨ts, df⟩ (.inRegion ops (i :: rest) :: k)) cs w) (lone (b.atR ⟨putO ts o.dst v, df⟩ (.inRegion ops rest :: k)) cs w')
def CallTo (P : Program) (f : FuncId) (args : Array Value) (w : World) (v : Value) (w' : World) : Prop :=
 ∀ cs, ∃ fr, Steps P (lone (Frame.enter P f args .normal) cs w) (lone fr cs w') ∧ fr.fn = f ∧ fr.leaving P w' (.returned v)
def Oper.plain (o : Oper) : Prop := ∀ c, o.op ≠ .defer c
theorem OpTo.value {P : Program} {o : Oper} {ts : Array Value} {w w' : World} {v : Value} (hd : Oper.plain o)
  (hr : (execOp (evalT ts) o).run P w = .ok (.value v) w') : OpTo P o ts w v w' := by
 intro b df cs ops i rest k ho hw
 refine .one (step_lone_go ?_)
 have hg := stepGR_op (P := P) (b := b) (a := ⟨ts, df⟩) (k := k) (cs := cs) (w := w) (rest := rest) ho hw
 rw [hg, Oper.semAt_eq _ _ _ hd, evalT_eq]
 have hfin := Frame.finish_atR b ⟨ts, df⟩ ops i rest k v
 simp only [stepG.apply, Sem.runT_eq, hr, GStep.bare_after]
 rw [ho] at hfin
 simp only [Option.bind_some, put_eq] at hfin
 exact congrArg (fun fr => GStep.go { frame := fr, callers := cs, status := .running, dying := none } w') hfin
theorem OpTo.skip {P : Program} {o : Oper} {ts : Array Value} {w w' : World} (hd : Oper.plain o)
  (hr : (execOp (evalT ts) o).run P w = .ok .skip w') : OpTo P o ts w undef w' := by
 intro b df cs ops i rest k ho hw
 refine .one (step_lone_go ?_)
 have hg := stepGR_op (P := P) (b := b) (a := ⟨ts, df⟩) (k := k) (cs := cs) (w := w) (rest := rest) ho hw
 rw [hg, Oper.semAt_eq _ _ _ hd, evalT_eq]
 have hfin := Frame.finish_atR b ⟨ts, df⟩ ops i rest k undef
 simp only [stepG.apply, Sem.runT_eq, hr, GStep.bare_after]
 rw [ho] at hfin
 simp only [Option.bind_some, put_eq] at hfin
 exact congrArg (fun fr => GStep.go { frame := fr, callers := cs, status := .running, dying := none } w') hfin
theorem OpTo.enter {P : Program} {o : Oper} {ts : Array Value} {w w1 w' : World} {f : FuncId} {args : Array Value} {v : Value} (hd : Oper.plain o)
  (hr : (execOp (evalT ts) o).run P w = .ok (.enter f args) w1) (hc : CallTo P f args w1 v w') : OpTo P o ts w v w' := by
 intro b df cs ops i rest k ho hw
 have hg := stepGR_op (P := P) (b := b) (a := ⟨ts, df⟩) (k := k) (cs := cs) (w := w) (rest := rest) ho hw
 rw [Oper.semAt_eq _ _ _ hd, evalT_eq] at hg
 obtain ⟨fr, hs, hfn, hl⟩ := hc (b.atR ⟨ts, df⟩ (.inRegion ops (i :: rest) :: k) :: cs)
 have henter : step P (lone (b.atR ⟨ts, df⟩ (.inRegion ops (i :: rest) :: k)) cs w) =
   .next (lone (Frame.enter P f args .normal) (b.atR ⟨ts, df⟩ (.inRegion ops (i :: rest) :: k) :: cs) w1) :=
  step_lone_go (by rw [hg]; simp [stepG.apply, Sem.runT_eq, hr, Frame.atR])
 refine .head henter (hs.trans (.one ?_))
 have hfin := Frame.finish_atR b ⟨ts, df⟩ ops i rest k v
 rw [ho] at hfin
 simp only [Option.bind_some, put_eq] at hfin
 rw [step_leave_returned hl, hfin]
theorem evalT_get {ts : Array Value} {t : Nat} {v : Value} (h : ts[t]? = some v) : evalT ts (.tmp t) = v := by
 simp [evalT, Array.getD_eq_getD_getElem?, h]


theorem Keep.refl (w : World) (ow : Nat → Lab) : Keep [] w ow w ow := ⟨rfl, rfl, rfl, Nat.le_refl _, fun _ _ h => ⟨rfl, h⟩, fun _ _ _ => ⟨rfl, rfl⟩⟩
theorem heap_alloc_old (w : World) (o : Obj) {b : Nat} (h : b < w.heap.size) : (w.alloc o).heap[b]? = w.heap[b]? := by
 show (w.heap.push o)[b]? = _
 rw [Array.getElem?_push, if_neg (by omega)]
theorem heap_alloc_new' (w : World) (o : Obj) : (w.alloc o).heap[w.heap.size]? = some o := by
 show (w.heap.push o)[w.heap.size]? = _
 simp
def owNew (ow : Nat → Lab) (b0 : Nat) (l : Lab) : Nat → Lab := fun b => if b = b0 then l else ow b
theorem Keep.alloc {w : World} {ow : Nat → Lab} (hb : ∀ b, ow b ≠ .free → b < w.heap.size) (o : Obj) (l : Lab) :
  Keep [] w ow (w.alloc o) (owNew ow w.heap.size l) := by
 refine ⟨rfl, rfl, rfl, by show w.heap.size ≤ (w.heap.push o).size; simp, fun b h1 h2 => ⟨heap_alloc_old w o h1, ?_⟩, fun b h1 _ => ⟨heap_alloc_old w o (hb b h1), ?_⟩⟩
 ·simp only [owNew]; rw [if_neg (by omega)]; exact h2
 ·have := hb b h1
  simp only [owNew]; rw [if_neg (by omega)]
theorem bnd_alloc {w : World} {ow : Nat → Lab} (hb : ∀ b, ow b ≠ .free → b < w.heap.size) (o : Obj) (l : Lab) :
  ∀ b, owNew ow w.heap.size l b ≠ .free → b < (w.alloc o).heap.size := by
 intro b h
 show b < (w.heap.push o).size
 rw [Array.size_push]
 simp only [owNew] at h
 split at h
 ·omega
 ·have := hb b h; omega
theorem Keep.drew {S : List Lab} {w w' : World} {ow ow' : Nat → Lab} (h : Keep S w ow w' ow') : Keep S w ow { w' with drawn := w'.drawn + 1 } ow' :=
 ⟨h.os, h.tape, h.output, h.size, h.free, h.keep⟩
def owTo (ow : Nat → Lab) (l l' : Lab) : Nat → Lab := fun b => if ow b = l then l' else ow b
theorem Keep.relab (w : World) (ow : Nat → Lab) (l l' : Lab) (hl : l ≠ .free) : Keep [l] w ow w (owTo ow l l') := by
 refine ⟨rfl, rfl, rfl, Nat.le_refl _, fun b _ h => ⟨rfl, ?_⟩, fun b _ h2 => ⟨rfl, ?_⟩⟩
 ·simp only [owTo]; rw [if_neg (by rw [h]; exact fun e => hl e.symm)]; exact h
 ·simp only [owTo]; rw [if_neg (by intro e; exact h2 (by simp [e]))]
theorem bnd_relab {w : World} {ow : Nat → Lab} (hb : ∀ b, ow b ≠ .free → b < w.heap.size) {l l' : Lab} (hl : l ≠ .free) : ∀ b, owTo ow l l' b ≠ .free → b < w.heap.size := by
 intro b h
 simp only [owTo] at h
 split at h
 ·rename_i e; exact hb b (by rw [e]; exact hl)
 ·exact hb b h
theorem Keep.trans {S : List Lab} {w w1 w2 : World} {ow ow1 ow2 : Nat → Lab} (h : Keep S w ow w1 ow1) (h' : Keep S w1 ow1 w2 ow2) : Keep S w ow w2 ow2 := by
 refine ⟨h'.os.trans h.os, h'.tape.trans h.tape, h'.output.trans h.output, Nat.le_trans h.size h'.size, fun b h1 h2 => ?_, fun b h1 h2 => ?_⟩
 ·obtain ⟨k1, k2⟩ := h.free b h1 h2
  obtain ⟨k3, k4⟩ := h'.free b (Nat.lt_of_lt_of_le h1 h.size) k2
  exact ⟨k3.trans k1, k4⟩
 ·obtain ⟨k1, k2⟩ := h.keep b h1 h2
  obtain ⟨k3, k4⟩ := h'.keep b (by rw [k2]; exact h1) (by rw [k2]; exact h2)
  exact ⟨k3.trans k1, k4.trans k2⟩
theorem Keep.more {S S' : List Lab} {w w1 : World} {ow ow1 : Nat → Lab} (h : Keep S w ow w1 ow1) (hs : ∀ l ∈ S, l ∈ S') : Keep S' w ow w1 ow1 :=
 ⟨h.os, h.tape, h.output, h.size, h.free, fun b h1 h2 => h.keep b h1 (fun hm => h2 (hs _ hm))⟩
def OpJ (P : Program) (N : Nat) (o : Oper) (st st' : St) : Prop :=
 ∀ w ow φ ts, Rel N w ow φ ts st → ∃ w' ow' φ' v, Rel N w' ow' φ' (putO ts o.dst v) st' ∧ Mods w ow w' ow' ∧ (∀ i, i < st.objs.length → φ' i = φ i) ∧ OpTo P o ts w v w'
def setE (st : St) (d : Nat) (it : It) : St := { st with env := (d, it) :: st.env.filter (keeps (some d) []) }
theorem OpJ.pure {P : Program} {N : Nat} {o : Oper} {st : St} {d : Nat} {it : It} (hp : Oper.plain o) (hd : o.dst = some d) (hN : d < N) (hb : it.base ≠ some d)
  (h : ∀ w ow φ ts, Rel N w ow φ ts st → ∃ v, (execOp (evalT ts) o).run P w = .ok (.value v) w ∧ RV w ow φ st.objs.length ts (.sl d) it v) : OpJ P N o st (setE st d it) := by
 intro w ow φ ts hr
 obtain ⟨v, hrun, hv⟩ := h w ow φ ts hr
 refine ⟨w, ow, φ, v, ?_, Mods.refl _ _, fun _ _ => rfl, OpTo.value hp hrun⟩
 have hdt : d < ts.size := by rw [hr.tsz]; exact hN
 rw [hd]
 refine Rel.step (S := []) (new := [(d, it)]) hr (Keep.refl w ow) (by simp) (by simp) (by simp) (fun _ _ => rfl) (Nat.le_refl _) ?_ ?_ hr.bnd
 ·intro e he
  obtain rfl := List.mem_singleton.1 he
  refine ⟨v, putO_same hdt, ?_⟩
  refine RV.keep (Keep.refl w ow) (by simp) (fun _ _ => rfl) (Nat.le_refl _) (by simp) (fun t' ht' => putO_other ?_) (by simp) hv
  intro e'
  exact hb (by rw [ht', e'])
 ·intro i cs hc
  exact .inl ⟨cs, hc, rfl, by simp, fun j m p _ => .inr (by simp)⟩
def look (env : List (Nat × It)) (t : Nat) : Option It :=
 match env with
 | [] => none
 | (k, it) :: r => if Nat.beq k t then some it else look r t
theorem look_mem : ∀ {env : List (Nat × It)} {t : Nat} {it : It}, look env t = some it → (t, it) ∈ env
 | [], t, it, h => by simp [look] at h
 | (k, i) :: r, t, it, h => by
  simp only [look] at h
  split at h
  ·rename_i e
   have : k = t := Nat.eq_of_beq_eq_true e
   subst this
   simp at h; subst h; simp
  ·exact List.mem_cons_of_mem _ (look_mem h)
def opd (env : List (Nat × It)) : Operand → Option It
 | .tmp t => look env t
 | .const (.int k n) => some (.v 0 (.d (.int k n)))
 | .const (.bool b) => some (.v 0 (.d (.bool b)))
 | .const (.string s) => some (.v 0 (.d (.str s)))
 | .const (.slice none 0 0) => some .nils
 | .const (.pointer none) => some (.v 0 .nilp)
 | .const .nilFunc => some (.v 0 .nilfn)
 | .func f => some (.v 0 (.fn f []))
 | _ => none
def opdLab : Operand → Lab
 | .tmp t => .sl t
 | _ => .free
theorem own0 {w : World} {ow : Nat → Lab} {φ : Nat → Nat} {n : Nat} {p : PV} {v : Value} {l : Lab} (h : RP w (Fz ow) φ n 0 p v []) : Own w ow φ n 0 p v l := ⟨[], h, List.nodup_nil, by simp⟩
theorem opd_rel {N : Nat} {w : World} {ow : Nat → Lab} {φ : Nat → Nat} {ts : Array Value} {st : St} (h : Rel N w ow φ ts st) {x : Operand} {it : It} (hx : opd st.env x = some it) :
  RV w ow φ st.objs.length ts (opdLab x) it (evalT ts x) := by
 unfold opd at hx
 split at hx
 ·obtain ⟨v, hv, hr⟩ := h.env _ _ (look_mem hx)
  rw [evalT_get hv]; exact hr
 ·cases hx; exact own0 (by simp [RP, RD, evalT])
 ·cases hx; exact own0 (by simp [RP, RD, evalT])
 ·cases hx; exact own0 (by simp [RP, RD, evalT])
 ·cases hx; rfl
 ·cases hx; exact own0 (by simp [RP, evalT])
 ·cases hx; exact own0 (by simp [RP, evalT])
 ·cases hx; exact own0 (by simp only [RP]; exact ⟨[], rfl, trivial, rfl⟩)
 ·cases hx
def It.free : It → Bool
 | .v m _ => m == 0
 | .nils => true
 | .ap _ _ => false
 | .tup ps => ps.all (fun p => p.1 == 0)
 | _ => true
theorem RV.lab {w : World} {ow : Nat → Lab} {φ : Nat → Nat} {n : Nat} {ts : Array Value} {l l' : Lab} {it : It} {v : Value} (hf : it.free = true) (h : RV w ow φ n ts l it v) : RV w ow φ n ts l' it v := by
 cases it with
 | v m p =>
  simp [It.free] at hf; subst hf
  obtain ⟨B, hr, hnd, hb⟩ := h
  obtain rfl := RP.zeroB hr
  exact own0 hr
 | nils => exact h
 | ap s xs => simp [It.free] at hf
 | tup ps =>
  obtain ⟨vs, B, hv, hr, hnd, hb⟩ := h
  obtain rfl := RTup.zeroB (by simpa [It.free] using hf) hr
  exact ⟨vs, [], hv, hr, List.nodup_nil, by simp⟩
 | b p => exact h
 | bc p s lo k => exact h
 | be p s i o => exact h
 | fa cs => exact h
 | kb b => exact h
 | pi o off => exact h
 | nn s xs => exact h


inductive TK where
 | int (k : IntKind)
 | bool
 | str
 | struct (fs : List (Nat × Nat × Nat))   -- offset, type, cells
 | arr (n e : Nat)
 | slice (e : Nat)
 | ptr (e : Nat)
 | map (k e : Nat)
 | fn
 | other
structure TI where
 size : Nat
 bytes : Nat
 zs : Nat      -- the cells of its zero value, and one more; 0: none
 k : TK
def tkOf (P : Program) : TypeDesc → TK
 | .int k => .int k
 | .bool => .bool
 | .string => .str
 | .struct fs => .struct (fs.toList.map fun f => (f.offset, f.type, P.cellsOf f.type))
 | .array n e => .arr n e
 | .slice e => .slice e
 | .pointer e => .ptr e
 | .map k e => .map k e
 | .func _ _ _ => .fn
 | _ => .other
def tiOf (P : Program) (t : TypeId) : Option TI :=
 match P.info? t, P.underlying t with
 | some i, some d => some ⟨i.size, i.bytes, match i.zero with | some z => z.cells.size + 1 | none => 0, tkOf P d⟩
 | _, _ => none
abbrev Tab := List (Nat × TI)
def tab (T : Tab) (t : Nat) : Option TI :=
 match T with
 | [] => none
 | (k, i) :: r => if Nat.beq k t then some i else tab r t
def TOK (P : Program) (T : Tab) : Prop := ∀ t i, tab T t = some i → tiOf P t = some i
theorem TOK.of {P : Program} : ∀ {T : Tab}, (T.map fun e => tiOf P e.1) = T.map (fun e => some e.2) → TOK P T
 | [], _ => fun t i h => by simp [tab] at h
 | (k, j) :: r, h => fun t i ht => by
  simp only [List.map_cons, List.cons.injEq] at h
  simp only [tab] at ht
  split at ht
  ·rename_i e
   have : k = t := Nat.eq_of_beq_eq_true e
   subst this
   simp at ht; subst ht; exact h.1
  ·exact TOK.of h.2 t i ht
theorem tiOf_spec {P : Program} {t : TypeId} {i : TI} (h : tiOf P t = some i) :
  ∃ inf d, P.info? t = some inf ∧ P.underlying t = some d ∧ inf.size = i.size ∧ inf.bytes = i.bytes ∧ tkOf P d = i.k := by
 unfold tiOf at h
 split at h
 ·rename_i inf d h1 h2
  simp at h; subst h
  exact ⟨inf, d, h1, h2, rfl, rfl, rfl⟩
 ·simp at h
theorem tiOf_zero {P : Program} {t : TypeId} {i : TI} {n : Nat} (h : tiOf P t = some i) (hz : i.zs = n + 1) : ∃ inf z, P.info? t = some inf ∧ inf.zero = some z ∧ z.cells.size = n := by
 unfold tiOf at h
 split at h
 ·rename_i inf d h1 h2
  simp at h; subst h
  simp only at hz
  split at hz
  ·rename_i z hzz
   exact ⟨inf, z, h1, hzz, by omega⟩
  ·omega
 ·simp at h
def TK.isAgg : TK → Bool
 | .struct _ | .arr _ _ => true
 | _ => false
section runs
variable {P : Program} {w : World}
theorem run_und {t : TypeId} {d : TypeDesc} (h : P.underlying t = some d) : (Go.underlying t).run P w = .ok d w := by
 simp [Go.underlying, h]
theorem run_size {t : TypeId} {i : TypeInfo} (h : P.info? t = some i) : (Go.sizeOf t).run P w = .ok i.size w := by
 simp [Go.sizeOf, typeInfo, h]
theorem run_isAgg {t : TypeId} {i : TI} (h : tiOf P t = some i) : (Go.isAgg t).run P w = .ok i.k.isAgg w := by
 obtain ⟨inf, d, h1, h2, h3, h4, h5⟩ := tiOf_spec h
 simp [Go.isAgg, run_und h2, ← h5]
 cases d <;> simp [tkOf, TK.isAgg]
theorem run_loadVar_cell {t : TypeId} {i : TI} (h : tiOf P t = some i) (ha : i.k.isAgg = false) {a : Addr} {v : Value} (hv : w.cell? a = some v) : (loadVar t a).run P w = .ok v w := by
 simp [loadVar, run_isAgg h, ha, hv]
theorem run_loadVar_agg {t : TypeId} {i : TI} (h : tiOf P t = some i) (ha : i.k.isAgg = true) {a : Addr} {vs : List Value} (hl : vs.length = i.size)
  (hv : ∀ j v, vs[j]? = some v → w.cell? (a.add j) = some v) : (loadVar t a).run P w = .ok (.agg vs.toArray) w := by
 obtain ⟨inf, d, h1, h2, h3, h4, h5⟩ := tiOf_spec h
 have := run_loadCells_list (P := P) w a vs hv
 simp [loadVar, run_isAgg h, ha, run_size h1, h3, ← hl, this]
end runs
theorem addr_add (b o n : Nat) : (Addr.mk b o none).add n = ⟨b, o + n, none⟩ := by
 unfold Addr.add; split <;> simp_all
theorem RC.vals {w : World} {Z : Nat → Prop} {m : Nat} {g : Nat → Option Value} : ∀ {cs : List D} {off : Nat} {B : List Nat}, RC w Z m cs g off B →
  ∃ vs : List Value, vs.length = cs.length ∧ (∀ j v, vs[j]? = some v → g (off + j) = some v) ∧ ∀ h : Nat → Option Value, ∀ o', (∀ j v, vs[j]? = some v → h (o' + j) = some v) → RC w Z m cs h o' B
 | [], off, B, h => ⟨[], rfl, by simp, fun h' o' _ => by simpa [RC] using h⟩
 | c :: cs, off, B, h => by
  simp only [RC] at h
  obtain ⟨v, B1, B2, hg, rfl, h1, h2⟩ := h
  obtain ⟨vs, hl, hv, hr⟩ := RC.vals h2
  refine ⟨v :: vs, by simp [hl], fun j u hj => ?_, fun h' o' hh => ?_⟩
  ·cases j with
   | zero => simp at hj; subst hj; simpa using hg
   | succ j => have := hv j u (by simpa using hj); rw [← this]; congr 1; omega
  ·simp only [RC]
   refine ⟨v, B1, B2, by simpa using hh 0 v (by simp), rfl, h1, hr h' (o' + 1) fun j u hj => ?_⟩
   have := hh (j + 1) u (by simpa using hj)
   rw [← this]; congr 1; omega
theorem RD.noAgg {w : World} {Z : Nat → Prop} {m : Nat} {x : D} {v : Value} {B : List Nat} (h : RD w Z m x v B) : v.oneCell' = true := by
 cases x with
 | int k n => simp only [RD] at h; rw [h.1]; rfl
 | bool b => simp only [RD] at h; rw [h.1]; rfl
 | str s => simp only [RD] at h; rw [h.1]; rfl
 | any => simp only [RD] at h; exact h.1
 | nl s => simp only [RD] at h; rw [h.1]; rfl
 | sl s xs =>
  cases m with
  | zero => simp only [RD] at h; obtain ⟨_, _, a, cap, hv, _⟩ := h; rw [hv]; rfl
  | succ m =>
   simp only [RD] at h
   rcases h with ⟨_, ⟨hv, _⟩ | ⟨_, _, _, _, _, _, hv, _⟩⟩ <;> rw [hv] <;> rfl


def bitsI (op : BinOp) (k : IntKind) (x y : Int) : Int :=
  let a := BitVec.ofInt k.bits x
  let b := BitVec.ofInt k.bits y
  match op with
  | .and => k.wrap (a &&& b).toNat
  | .or => k.wrap (a ||| b).toNat
  | .xor => k.wrap (a ^^^ b).toNat
  | _ => k.wrap (a &&& ~~~b).toNat
def shlI (k : IntKind) (x y : Int) : Int := k.wrap (x * 2 ^ (min y.toNat k.bits))
def shrI (k : IntKind) (x y : Int) : Int := x.fdiv (2 ^ (min y.toNat k.bits))
def strLess (x y : ByteArray) : Bool := Op.bytesLess x.toList y.toList
def strEq (x y : ByteArray) : Bool := x.toList == y.toList
def evBin (op : BinOp) (x y : PV) : Option (PV × List Prop) :=
  match x, y with
  | .d (.int k a), .d (.int k' b) =>
    match op with
    | .shl => some (.d (.int k (shlI k a b)), [0 ≤ b])
    | .shr => some (.d (.int k (shrI k a b)), [0 ≤ b])
    | op => if k = k' then
      match op with
      | .add => some (.d (.int k (k.wrap (a + b))), [])
      | .sub => some (.d (.int k (k.wrap (a - b))), [])
      | .mul => some (.d (.int k (k.wrap (a * b))), [])
      | .quo => some (.d (.int k (k.wrap (a.tdiv b))), [b ≠ 0])
      | .rem => some (.d (.int k (a.tmod b)), [b ≠ 0])
      | .and => some (.d (.int k (bitsI .and k a b)), [])
      | .or => some (.d (.int k (bitsI .or k a b)), [])
      | .xor => some (.d (.int k (bitsI .xor k a b)), [])
      | .andNot => some (.d (.int k (bitsI .andNot k a b)), [])
      | .eql => some (.d (.bool (a == b)), [])
      | .neq => some (.d (.bool (a != b)), [])
      | .lss => some (.d (.bool (decide (a < b))), [])
      | .leq => some (.d (.bool (decide (a ≤ b))), [])
      | .gtr => some (.d (.bool (decide (a > b))), [])
      | .geq => some (.d (.bool (decide (a ≥ b))), [])
      | _ => none
      else none
  | .d (.str a), .d (.str b) =>
    match op with
    | .add => some (.d (.str (a ++ b)), [a.size + b.size ≤ 9223372036854775807])
    | .eql => some (.d (.bool (strEq a b)), [])
    | .neq => some (.d (.bool (!strEq a b)), [])
    | .lss => some (.d (.bool (strLess a b)), [])
    | _ => none
  | _, _ => none
def AllP : List Prop → Prop
  | [] => True
  | p :: r => p ∧ AllP r
theorem AllP.append {a b : List Prop} : AllP (a ++ b) ↔ AllP a ∧ AllP b := by
  induction a with
  | nil => simp [AllP]
  | cons p r ih => simp [AllP, ih, and_assoc]
theorem evBin_run {P : Program} {w : World} {ow : Nat → Lab} {φ : Nat → Nat} {n : Nat} {op : BinOp} {t : TypeId} {x y : PV} {a b : Value} {p : PV} {obs : List Prop} {ox oy : Operand}
    (h : evBin op x y = some (p, obs)) (ho : AllP obs) (hx : RP w (Fz ow) φ n 0 x a []) (hy : RP w (Fz ow) φ n 0 y b []) :
    ∃ v, (do eqGuard op t ox oy a b; binOp op t a b : Sem Value).run P w = .ok v w ∧ RP w (Fz ow) φ n 0 p v [] := by
  unfold evBin at h
  split at h
  · rename_i k a' k' b'
    simp only [RP, RD] at hx hy
    obtain ⟨rfl, _⟩ := hx
    obtain ⟨rfl, _⟩ := hy
    have hg : (eqGuard op t ox oy (.int k a') (.int k' b')).run P w = .ok () w := by
      unfold eqGuard; cases op <;> simp
    cases op <;> simp only [Option.some.injEq, Prod.mk.injEq] at h <;>
      first
      | (obtain ⟨rfl, rfl⟩ := h
         simp only [AllP, and_true] at ho
         refine ⟨_, ?_, by simp [RP, RD]; rfl⟩
         simp only [Sem.run_bind, hg, Result.andThen_ok, binOp, Op.shift, if_neg (Int.not_lt.2 ho), shlI, shrI]
         rfl)
      | (split at h
         · rename_i hk
           subst hk
           first
           | (simp only [Option.some.injEq, Prod.mk.injEq] at h
              obtain ⟨rfl, rfl⟩ := h
              refine ⟨_, ?_, by simp [RP, RD]; rfl⟩
              simp only [Sem.run_bind, hg, Result.andThen_ok, binOp, ne_eq, not_true_eq_false, if_false, Op.intArith, Op.intBits, Op.intCmp, bitsI]
              rfl)
           | (simp only [Option.some.injEq, Prod.mk.injEq] at h
              obtain ⟨rfl, rfl⟩ := h
              simp only [AllP, and_true] at ho
              refine ⟨_, ?_, by simp [RP, RD]; rfl⟩
              simp only [Sem.run_bind, hg, Result.andThen_ok, binOp, ne_eq, not_true_eq_false, if_false, Op.intDiv, if_neg ho]
              rfl)
           | cases h
         · cases h)
  · rename_i a' b'
    simp only [RP, RD] at hx hy
    obtain ⟨rfl, _⟩ := hx
    obtain ⟨rfl, _⟩ := hy
    have hg : (eqGuard op t ox oy (.string a') (.string b')).run P w = .ok () w := by
      unfold eqGuard; cases op <;> simp
    cases op <;> simp only [Option.some.injEq, Prod.mk.injEq, reduceCtorEq] at h <;>
      (obtain ⟨rfl, rfl⟩ := h
       simp only [AllP, and_true] at ho
       refine ⟨_, ?_, by simp [RP, RD]; rfl⟩
       simp only [Sem.run_bind, hg, Result.andThen_ok, binOp, Op.stringOp, strEq, strLess]
       first
       | rfl
       | (rw [if_neg (by have : IntKind.i64.max = 9223372036854775807 := by decide
                         omega)]; rfl))
  · cases h


def Rdb (w : World) (ow : Nat → Lab) (l : Lab) (m s : Nat) (xs : List (List D)) (v : Value) : Prop :=
 1 ≤ s ∧ ∃ a cap B, v = .slice a xs.length cap ∧ xs.length ≤ cap ∧ (∀ p, a = some p → cap ≠ 0 → p.spot = none) ∧ (a = none → cap = 0) ∧
  (xs ≠ [] → ∃ p, a = some p ∧ (ow p.block = l ∨ m = 0 ∧ ow p.block = .frz) ∧ RX w (Fz ow) m s xs p.block p.off B ∧ ∀ b ∈ B, ow b = l)
theorem Rdb.of0 {w : World} {ow : Nat → Lab} {l : Lab} {s : Nat} {xs : List (List D)} {v : Value} (h : RD w (Fz ow) 0 (.sl s xs) v []) : Rdb w ow l 0 s xs v := by
 simp only [RD] at h
 obtain ⟨_, hs, a, cap, hv, hc, hp, hn, hx⟩ := h
 refine ⟨hs, a, cap, [], hv, hc, hp, hn, fun hne => ?_⟩
 obtain ⟨p, ha, hz, hr⟩ := hx hne
 exact ⟨p, ha, .inr ⟨rfl, hz⟩, hr, by simp⟩
theorem Rdb.of1 {w : World} {ow : Nat → Lab} {l : Lab} {m s : Nat} {xs : List (List D)} {v : Value} {B : List Nat} (h : RD w (Fz ow) (m + 1) (.sl s xs) v B) (hb : ∀ b ∈ B, ow b = l) :
  Rdb w ow l m s xs v := by
 simp only [RD] at h
 obtain ⟨hs, h⟩ := h
 refine ⟨hs, ?_⟩
 rcases h with ⟨rfl, rfl, rfl⟩ | ⟨blk, off, cap, c, e, B', rfl, hc, hh, ho, rfl, hr⟩
 ·exact ⟨none, 0, [], rfl, by simp, by simp, by simp, by simp⟩
 ·exact ⟨some ⟨blk, off, none⟩, cap, B', rfl, hc, by rintro p hp _; cases hp; rfl, by simp, fun _ => ⟨_, rfl, .inl (hb blk (by simp)), hr, fun b hm => hb b (by simp [hm])⟩⟩
abbrev Env := List (Nat × It)
abbrev Objs := List (List (Nat × PV))
inductive Orc where
 | cells (x : List D)
 | br (b : Bool)
 | it (i : It)
 | cell (c : Nat × PV)
 | eq (t : Nat) (i : It)              -- what a slot is, told otherwise
 | eqO (i : Nat) (cs : List (Nat × PV))
 | dec (t : Nat) (b : Bool)           -- a bool that was decided
 | nilAs (t s m : Nat)                -- nil, as a slice of no elements: frozen, own, to append to
 | toAp (t : Nat)                     -- a slot's own slice, told as one to append to
 | unk (t : Nat)                      -- a bool that was decided, told as a bool
 | sp (t : Nat)                       -- a slice that is not nil, told as a slice
 | mv (t q : Nat)                     -- a slot's own slice that another slot shows: the other one's now
 | frzb (t q : Nat)                   -- a slot's own slice that another slot shows: both told as nobody's to write
 | frz (t : Nat)                      -- a slot's own slice: nobody writes it any more
 | env (ts : List Nat)                -- what is kept
 | pre (ts : List Nat)                -- what is kept ahead of a drawn region
 | objs (n : Nat)                     -- only so many objects are of interest from here on
 | take (t : Nat)                      -- a slot shows a cell's own slice: it takes it over
 | shw (t : Nat)                       -- a slot shows a cell that is nobody's to write
 | den (t : Nat)                       -- nil, as a slice of no elements: in a slot's cells; alone: nil
 | denO (i j m : Nat)                  -- the same in an object's cell
 | frzO (i j : Nat)                    -- a cell's own slice: nobody writes it any more
 | seg (x : List D)                   -- the cells there
 | faS (t : Nat) (x : List D)          -- an address of frozen cells, told as that of so many
 | fpa (t : Nat)                       -- a slot's pointer to frozen cells, told as their address
 | yld (args : List PV) (b : Bool) (e : Ext)   -- what a yield comes to
 | halt                               -- stop here: a round's end by ret, exit or goto
 | clos (t : Nat) (m : Nat)           -- the end: a closure's objects, from m on, are nobody's to write any more
 | mark                               -- what comes behind is for the end
 | stop (n : Nat)                     -- stop where the stack has this depth
 | obj (cs : List PV)                 -- a new object's zeros
 | draw (its : List (Option (Nat × It))) (orcs : List (List Orc))   -- a region whose order is drawn: what each step leaves, and its own oracles
 | drawM (mems : List Nat) (sets : List (List Nat)) (Ss : List (List (Nat × It) × List (List (Nat × PV)) × Ext)) (its : List (Option (Nat × It))) (orcs : List (List (List Orc)))   -- the same, where some steps change what is known: which, the sets of them that may be done, and what is known then
 | call (pi : List Nat) (args : List PV) (oc oc' : List (List (Nat × PV))) (res : It)
def contD (env : Env) (objs : Objs) : Pl → List Orc → Option ((Nat × Nat × List (List D)) × List Prop × List Orc)
 | .slot t, orc => match look env t with
  | some (.v (m + 1) (.d (.sl s xs))) => some ((m, s, xs), [], orc)
  | some (.ap s xs) => some ((0, s, xs), [], orc)
  | _ => none
 | .obj i j, orc => match (objs[i]?).bind (·[j]?) with
  | some (m + 1, .d (.sl s xs)) => some ((m, s, xs), [], orc)
  | _ => none
 | .el p s i o, orc => match contD env objs p orc with
  | some ((m + 1, s', xs), obs, .cells x :: orc') =>
   if Nat.beq s s' then
    match x[o]? with
    | some (.sl s2 ys) => some ((m, s2, ys), obs ++ [xs[i]? = some x], orc')
    | _ => none
   else none
  | _ => none
theorem contD_sound {N : Nat} {w : World} {ow : Nat → Lab} {φ : Nat → Nat} {ts : Array Value} {st : St} (h : Rel N w ow φ ts st) :
  ∀ (p : Pl) (orc : List Orc) {m s : Nat} {xs : List (List D)} {obs : List Prop} {orc' : List Orc}, contD st.env st.objs p orc = some ((m, s, xs), obs, orc') → AllP obs →
   ∃ v, p.Hd w ow φ st.objs.length ts v ∧ Rdb w ow p.root m s xs v
 | .slot t, orc, m, s, xs, obs, orc', hc, ho => by
  simp only [contD] at hc
  split at hc
  ·rename_i m' s' xs' hl
   cases hc
   obtain ⟨v, hv, B, hr, hnd, hb⟩ := h.env _ _ (look_mem hl)
   simp only [RP] at hr
   exact ⟨v, hv, Rdb.of1 hr hb⟩
  ·rename_i s' xs' hl
   cases hc
   obtain ⟨v, hv, hr⟩ := h.env _ _ (look_mem hl)
   refine ⟨v, hv, ?_⟩
   rcases hr with ⟨B, hr, hnd, hb⟩ | ⟨a, rfl, hr⟩
   ·simp only [RP] at hr
    exact Rdb.of1 hr hb
   ·exact Rdb.of0 hr
  ·cases hc
 | .obj i j, orc, m, s, xs, obs, orc', hc, ho => by
  simp only [contD] at hc
  split at hc
  ·rename_i m' s' xs' hl
   cases hc
   obtain ⟨cs, h1, h2⟩ := Option.bind_eq_some_iff.1 hl
   obtain ⟨c, e, hh, hsz, hlab, hcs⟩ := h.objs i cs h1
   obtain ⟨v, hv, _, _, B, hr, hnd, hb⟩ := hcs j _ _ h2
   simp only [RP] at hr
   have hi : i < st.objs.length := by
    rcases Nat.lt_or_ge i st.objs.length with hi | hi
    ·exact hi
    ·rw [List.getElem?_eq_none hi] at h1; simp at h1
   exact ⟨v, ⟨hi, hlab, by simp [mem, World.cell?, hh, hv]⟩, Rdb.of1 hr hb⟩
  ·cases hc
 | .el p s0 i o, orc, m, s, xs, obs, orc', hc, ho => by
  simp only [contD] at hc
  split at hc
  ·rename_i m' s' xs' obs' x orc'' hp
   split at hc
   ·rename_i hs
    have hs : s0 = s' := Nat.eq_of_beq_eq_true hs
    subst hs
    split at hc
    ·rename_i s2 ys hx
     cases hc
     rw [AllP.append] at ho
     obtain ⟨ho1, ho2, _⟩ := ho
     obtain ⟨v, hv, hs1, a, cap, B, rfl, hcap, hsp, hnone, hrx⟩ := contD_sound h p orc hp ho1
     have hne : xs' ≠ [] := by intro e; subst e; simp at ho2
     obtain ⟨q, rfl, hlab, hr, hB⟩ := hrx hne
     obtain ⟨hlen, B1, B0, B2, hBe, hrc⟩ := RX.get _ _ _ _ _ _ _ _ hr ho2
     obtain ⟨u, C0, C1, C2, hu, hCe, hrd⟩ := RC.get _ _ _ _ _ _ hrc hx
     have hlab' : ow q.block = p.root := by
      rcases hlab with hl | ⟨hm, _⟩
      ·exact hl
      ·simp at hm
     refine ⟨u, ⟨q, _, _, hv, hlab', hu⟩, Rdb.of1 hrd (fun b hb => hB b ?_)⟩
     rw [hBe, hCe]
     simp [hb]
    ·cases hc
   ·cases hc
  ·cases hc


theorem tk_slice {P : Program} {d : TypeDesc} {e : Nat} (h : tkOf P d = .slice e) : d = .slice e := by cases d <;> simp [tkOf] at h; rw [h]
theorem tk_arr {P : Program} {d : TypeDesc} {n e : Nat} (h : tkOf P d = .arr n e) : d = .array n e := by cases d <;> simp [tkOf] at h; rw [h.1, h.2]
theorem tk_int {P : Program} {d : TypeDesc} {k : IntKind} (h : tkOf P d = .int k) : d = .int k := by cases d <;> simp [tkOf] at h; rw [h]
theorem tk_str {P : Program} {d : TypeDesc} (h : tkOf P d = .str) : d = .string := by cases d <;> simp [tkOf] at h <;> rfl
theorem tk_bool {P : Program} {d : TypeDesc} (h : tkOf P d = .bool) : d = .bool := by cases d <;> simp [tkOf] at h <;> rfl
theorem tk_struct {P : Program} {d : TypeDesc} {fs : List (Nat × Nat × Nat)} (h : tkOf P d = .struct fs) : ∃ f, d = .struct f ∧ fs = f.toList.map fun f => (f.offset, f.type, P.cellsOf f.type) := by
 cases d <;> simp [tkOf] at h; exact ⟨_, rfl, h.symm⟩
section runs
variable {P : Program} {w : World}
theorem run_indexAt_slice {t e : TypeId} {it ie : TI} (ht : tiOf P t = some it) (hk : it.k = .slice e) (he : tiOf P e = some ie) {a : Addr} {len cap : Nat} {k : IntKind} {i : Int}
  (h0 : 0 ≤ i) (h1 : i < len) (ha : a.spot = none) : (Instr.indexAt t (.slice (some a) len cap) (.int k i)).run P w = .ok (.pointer (some ⟨a.block, a.off + i.toNat * ie.size, none⟩)) w := by
 obtain ⟨inf, d, i1, i2, i3, i4, i5⟩ := tiOf_spec ht
 obtain ⟨inf', d', j1, j2, j3, j4, j5⟩ := tiOf_spec he
 rw [hk] at i5
 obtain rfl := tk_slice i5
 obtain ⟨b, o, s⟩ := a
 simp only at ha; subst ha
 simp [Instr.indexAt, asIntOf, run_und i2, h0, h1, run_size j1, j3, addr_add]
theorem run_indexAt_arr {t e : TypeId} {n : Nat} {it ie : TI} (ht : tiOf P t = some it) (hk : it.k = .arr n e) (he : tiOf P e = some ie) {b o : Nat} {k : IntKind} {i : Int}
  (h0 : 0 ≤ i) (h1 : i < n) : (Instr.indexAt t (.pointer (some ⟨b, o, none⟩)) (.int k i)).run P w = .ok (.pointer (some ⟨b, o + i.toNat * ie.size, none⟩)) w := by
 obtain ⟨inf, d, i1, i2, i3, i4, i5⟩ := tiOf_spec ht
 obtain ⟨inf', d', j1, j2, j3, j4, j5⟩ := tiOf_spec he
 rw [hk] at i5
 obtain rfl := tk_arr i5
 simp [Instr.indexAt, asIntOf, run_und i2, Instr.sureAddr, h0, h1, run_size j1, j3, addr_add]
theorem run_fieldAt {t : TypeId} {it : TI} {fs : List (Nat × Nat × Nat)} {f off ty s : Nat} (ht : tiOf P t = some it) (hk : it.k = .struct fs) (hf : fs[f]? = some (off, ty, s)) (hs : s ≠ 0) {b o : Nat} :
  (Instr.fieldAt t (.pointer (some ⟨b, o, none⟩)) f).run P w = .ok (.pointer (some ⟨b, o + off, none⟩)) w := by
 obtain ⟨inf, d, i1, i2, i3, i4, i5⟩ := tiOf_spec ht
 rw [hk] at i5
 obtain ⟨g, rfl, rfl⟩ := tk_struct i5
 simp only [List.getElem?_map, Option.map_eq_some_iff] at hf
 obtain ⟨fl, h1, h2⟩ := hf
 obtain ⟨rfl, rfl, rfl⟩ := Prod.mk.inj h2 |>.imp id (fun h => Prod.mk.inj h)
 have h1' : g[f]? = some fl := by rw [← Array.getElem?_toList]; exact h1
 have hsz : ∃ inf, P.info? fl.type = some inf ∧ inf.size ≠ 0 := by
  simp only [Program.cellsOf] at hs
  cases hi : P.info? fl.type with
  | none => simp [hi] at hs
  | some inf => simp [hi] at hs; exact ⟨inf, rfl, hs⟩
 obtain ⟨inf', j1, j2⟩ := hsz
 simp [Instr.fieldAt, run_und i2, h1', Instr.sureAddr, fieldPlace, run_size j1, j2, addr_add]
end runs
def evIdx (T : Tab) (env : Env) (objs : Objs) (t : Nat) (x i : Operand) (orc : List Orc) : Option (It × List Prop × List Orc) :=
 match tab T t, opd env i with
 | some ⟨_, _, _, .slice e⟩, some (.v 0 (.d (.int _ n))) =>
  match tab T e with
  | some ie =>
   match opd env x, orc with
   | some (.v 0 (.d (.sl s xs))), .cells c :: orc' => if Nat.beq s ie.size then some (.fa c, [0 ≤ n, xs[n.toNat]? = some c], orc') else none
   | some (.b p), orc => match contD env objs p orc with
    | some ((_, s, xs), obs, orc') => if Nat.beq s ie.size then some (.be p s n.toNat 0, obs ++ [0 ≤ n, n < xs.length], orc') else none
    | none => none
   | some (.bc p s lo k), orc => if Nat.beq s ie.size then some (.be p s (lo + n.toNat) 0, [0 ≤ n, n < k], orc) else none
   | _, _ => none
  | none => none
 | some ⟨_, _, _, .arr m e⟩, some (.v 0 (.d (.int _ n))) =>
  match tab T e, opd env x with
  | some ie, some (.v 0 (.ptr o off)) => some (.pi o (off + n.toNat * ie.size), [0 ≤ n, n < m], orc)
  | some ie, some (.pi o off) => some (.pi o (off + n.toNat * ie.size), [0 ≤ n, n < m], orc)
  | some ie, some (.be p s i' o) => some (.be p s i' (o + n.toNat * ie.size), [0 ≤ n, n < m], orc)
  | some ie, some (.fa cs) => some (.fa (cs.drop (n.toNat * ie.size)), [0 ≤ n, n < m], orc)
  | _, _ => none
 | _, _ => none
theorem evIdx_sound {P : Program} {T : Tab} (hT : TOK P T) {N : Nat} {w : World} {ow : Nat → Lab} {φ : Nat → Nat} {ts : Array Value} {st : St} (h : Rel N w ow φ ts st)
  {t : Nat} {x i : Operand} {orc orc' : List Orc} {it : It} {obs : List Prop} (he : evIdx T st.env st.objs t x i orc = some (it, obs, orc')) (ho : AllP obs) :
  ∃ v, (Instr.indexAt t (evalT ts x) (evalT ts i)).run P w = .ok v w ∧ RV w ow φ st.objs.length ts .free it v ∧ it.free = true := by
 unfold evIdx at he
 split at he
 ·rename_i sz bz zz e k n ht hi
  have hi' := opd_rel h hi
  obtain ⟨Bi, hri, _, _⟩ := hi'
  simp only [RP, RD] at hri
  rw [hri.1]
  split at he
  ·rename_i ie hte
   split at he
   ·rename_i s xs c orc0 hx
    split at he
    ·rename_i hs
     have hs : s = ie.size := Nat.eq_of_beq_eq_true hs
     cases he
     obtain ⟨h0, h1, _⟩ := ho
     obtain ⟨B, hr, hnd, hb⟩ := opd_rel h hx
     simp only [RP] at hr
     obtain rfl := RD.zeroB hr
     simp only [RD] at hr
     obtain ⟨_, hs1, a, cap, hv, hcap, hsp, hnone, hrx⟩ := hr
     have hlt : n.toNat < xs.length := by
      rcases Nat.lt_or_ge n.toNat xs.length with hl | hl
      ·exact hl
      ·rw [List.getElem?_eq_none hl] at h1; simp at h1
     have hne : xs ≠ [] := by intro e'; subst e'; simp at hlt
     obtain ⟨q, rfl, hz, hrx⟩ := hrx hne
     obtain ⟨hlen, B1, B0, B2, hBe, hrc⟩ := RX.get _ _ _ _ _ _ _ _ hrx h1
     obtain ⟨hB0, hB2⟩ := List.append_eq_nil_iff.1 hBe.symm
     obtain ⟨hB0, rfl⟩ := List.append_eq_nil_iff.1 hB0
     rw [hv]
     refine ⟨_, run_indexAt_slice (hT _ _ ht) rfl (hT _ _ hte) h0 (by omega) (hsp q rfl (by omega)), ⟨q.block, _, rfl, hz, ?_⟩, rfl⟩
     rw [← hs]; exact hrc
    ·cases he
   ·rename_i orc0 p hx
    split at he
    ·rename_i m s xs obs0 orc1 hc
     split at he
     ·rename_i hs
      have hs : s = ie.size := Nat.eq_of_beq_eq_true hs
      cases he
      rw [AllP.append] at ho
      obtain ⟨ho0, h0, h1, _⟩ := ho
      obtain ⟨v, hv, hs1, a, cap, B, hve, hcap, hsp, hnone, hrx⟩ := contD_sound h p _ hc ho0
      have hne : xs ≠ [] := by intro e'; subst e'; simp at h1; omega
      obtain ⟨q, rfl, hlab, hrx, hB⟩ := hrx hne
      have hxv := opd_rel h hx
      have hxe : evalT ts x = v := by
       -- a header lies there once
       exact Pl.Hd.unique hxv hv
      rw [hxe, hve]
      refine ⟨_, run_indexAt_slice (hT _ _ ht) rfl (hT _ _ hte) h0 h1 (hsp q rfl (by omega)), ⟨q, _, _, by rw [← hve]; exact hv, hsp q rfl (by omega), ?_⟩, rfl⟩
      rw [← hs]; rfl
     ·cases he
    ·cases he
   ·rename_i orc0 p s lo kk hx
    split at he
    ·rename_i hs
     have hs : s = ie.size := Nat.eq_of_beq_eq_true hs
     cases he
     obtain ⟨h0, h1, _⟩ := ho
     rcases opd_rel h hx with ⟨_, hk0, _⟩ | ⟨a, len, cap, a', cap', hd, hsp, hsp', hv, hblk, hc1, hc2, hoff⟩
     ·omega
     rw [hv]
     refine ⟨_, run_indexAt_slice (hT _ _ ht) rfl (hT _ _ hte) h0 h1 (hsp' (by omega)), ⟨a, len, cap, hd, hsp (by omega), ?_⟩, rfl⟩
     rcases hoff with hoff | hk0
     ·rw [hblk, hoff, hs, Nat.add_mul]
      simp only [Value.pointer.injEq, Option.some.injEq, Addr.mk.injEq, and_true, true_and]
      omega
     ·omega
    ·cases he
   ·cases he
  ·cases he
 ·rename_i sz bz zz m e k n ht hi
  have hi' := opd_rel h hi
  obtain ⟨Bi, hri, _, _⟩ := hi'
  simp only [RP, RD] at hri
  rw [hri.1]
  split at he
  ·rename_i ie o off hte hx
   cases he
   obtain ⟨h0, h1, _⟩ := ho
   obtain ⟨B, hr, _, _⟩ := opd_rel h hx
   simp only [RP] at hr
   rw [hr.1]
   exact ⟨_, run_indexAt_arr (hT _ _ ht) rfl (hT _ _ hte) h0 h1, ⟨rfl, hr.2.1⟩, rfl⟩
  ·rename_i ie o off hte hx
   cases he
   obtain ⟨h0, h1, _⟩ := ho
   obtain ⟨hr, hr2⟩ := opd_rel h hx
   rw [hr]
   exact ⟨_, run_indexAt_arr (hT _ _ ht) rfl (hT _ _ hte) h0 h1, ⟨rfl, hr2⟩, rfl⟩
  ·rename_i ie p s i' o hte hx
   cases he
   obtain ⟨h0, h1, _⟩ := ho
   obtain ⟨a, len, cap, hd, hsp, hv⟩ := opd_rel h hx
   rw [hv]
   refine ⟨_, run_indexAt_arr (hT _ _ ht) rfl (hT _ _ hte) h0 h1, ⟨a, len, cap, hd, hsp, ?_⟩, rfl⟩
   simp only [Nat.add_assoc]
  ·rename_i ie cs hte hx
   cases he
   obtain ⟨h0, h1, _⟩ := ho
   obtain ⟨b, off, hv, hz, hr⟩ := opd_rel h hx
   rw [hv]
   exact ⟨_, run_indexAt_arr (hT _ _ ht) rfl (hT _ _ hte) h0 h1, ⟨b, _, rfl, hz, RC.drop _ _ _ _ hr⟩, rfl⟩
  ·cases he
 ·cases he


def aggOf : Nat → List (Nat × PV) → Option (List D)
 | 0, _ => some []
 | n + 1, (0, .d x) :: r => match aggOf n r with
  | some l => some (x :: l)
  | none => none
 | _ + 1, _ => none
theorem aggOf_get : ∀ {n : Nat} {cs : List (Nat × PV)} {ds : List D}, aggOf n cs = some ds → ds.length = n ∧ ∀ (j : Nat) (x : D), ds[j]? = some x → cs[j]? = some (0, PV.d x)
 | 0, cs, ds, h => by simp [aggOf] at h; subst h; simp
 | n + 1, [], ds, h => by simp [aggOf] at h
 | n + 1, (m, p) :: r, ds, h => by
  unfold aggOf at h
  split at h
  ·rename_i heq; simp at heq
  ·rename_i n' x r' h1 h2
   cases h1; cases h2
   split at h
   ·rename_i l hl
    cases h
    obtain ⟨h1, h2⟩ := aggOf_get hl
    refine ⟨by simp [h1], fun j y hj => ?_⟩
    cases j with
    | zero => simp at hj; subst hj; simp
    | succ j => simpa using h2 j y (by simpa using hj)
   ·cases h
  ·cases h
def evLoad (T : Tab) (env : Env) (objs : Objs) (t : Nat) (a : Operand) (orc : List Orc) : Option (It × List Prop × List Orc) :=
 match tab T t with
 | none => none
 | some ti =>
  match opd env a with
  | some (.v 0 (.ptr o off)) =>
   match objs[o]? with
   | none => none
   | some cs =>
    if ti.k.isAgg then
     match aggOf ti.size (cs.drop off) with
     | some ds => some (.v 0 (.agg ds), [], orc)
     | none => none
    else match cs[off]? with
     | some (0, p) => some (.v 0 p, [], orc)
     | some (_ + 1, _) => some (.b (.obj o off), [], orc)
     | none => none
  | some (.pi o off) =>
   match objs[o]?, orc with
   | some cs, .cell (0, p) :: orc' => if ti.k.isAgg then none else some (.v 0 p, [cs[off]? = some (0, p)], orc')
   | _, _ => none
  | some (.fa cs) =>
   if ti.k.isAgg then
    if Nat.beq (cs.take ti.size).length ti.size then some (.v 0 (.agg (cs.take ti.size)), [], orc) else none
   else match cs with
    | c :: _ => some (.v 0 (.d c), [], orc)
    | [] => none
  | some (.v 0 (.fp cs)) =>
   if ti.k.isAgg then
    if Nat.beq (cs.take ti.size).length ti.size then some (.v 0 (.agg (cs.take ti.size)), [], orc) else none
   else match cs with
    | c :: _ => some (.v 0 (.d c), [], orc)
    | [] => none
  | some (.be p s i o) =>
   match contD env objs p orc with
   | some ((m, s', xs), obs, .cells c :: orc') =>
    if Nat.beq s s' then
     if ti.k.isAgg then
      if Nat.beq m 0 then
       if Nat.beq ((c.drop o).take ti.size).length ti.size then some (.v 0 (.agg ((c.drop o).take ti.size)), obs ++ [xs[i]? = some c], orc') else none
      else none
     else match c[o]?, m with
      | some x, 0 => some (.v 0 (.d x), obs ++ [xs[i]? = some c], orc')
      | some (.sl _ _), _ + 1 => some (.b (.el p s i o), obs ++ [xs[i]? = some c], orc')
      | some (.int k n), _ + 1 => some (.v 0 (.d (.int k n)), obs ++ [xs[i]? = some c], orc')
      | some (.bool k), _ + 1 => some (.v 0 (.d (.bool k)), obs ++ [xs[i]? = some c], orc')
      | _, _ => none
    else none
   | _ => none
  | _ => none
theorem RC.ofCells {w : World} {ow : Nat → Lab} {φ : Nat → Nat} {n i : Nat} {cs : List (Nat × PV)} {g : Nat → Option Value} (hcs : ∀ j m p, cs[j]? = some (m, p) → ∃ v, g j = some v ∧ Own w ow φ n m p v (.ce i j)) :
  ∀ (ds : List D) (off : Nat), (∀ j x, ds[j]? = some x → cs[off + j]? = some (0, .d x)) → RC w (Fz ow) 0 ds g off []
 | [], off, _ => by simp [RC]
 | x :: ds, off, h => by
  obtain ⟨v, hv, B, hr, _, _⟩ := hcs off 0 (.d x) (by simpa using h 0 x (by simp))
  simp only [RP] at hr
  obtain rfl := RD.zeroB hr
  simp only [RC]
  exact ⟨v, [], [], hv, rfl, hr, RC.ofCells hcs ds (off + 1) fun j y hj => by have := h (j + 1) y (by simpa using hj); rw [← this]; congr 1; omega⟩
theorem evLoad_sound {P : Program} {T : Tab} (hT : TOK P T) {N : Nat} {w : World} {ow : Nat → Lab} {φ : Nat → Nat} {ts : Array Value} {st : St} (h : Rel N w ow φ ts st)
  {t : Nat} {a : Operand} {orc orc' : List Orc} {it : It} {obs : List Prop} (he : evLoad T st.env st.objs t a orc = some (it, obs, orc')) (ho : AllP obs) :
  ∃ v, (Instr.loadAt t (evalT ts a)).run P w = .ok v w ∧ RV w ow φ st.objs.length ts .free it v ∧ it.free = true := by
 unfold evLoad at he
 split at he
 ·cases he
 ·rename_i ti ht
  have hti := hT _ _ ht
  split at he
  ·-- an object's cell
   rename_i o off ha
   obtain ⟨B, hr, _, _⟩ := opd_rel h ha
   simp only [RP] at hr
   obtain ⟨hv, hon, _⟩ := hr
   rw [hv]
   split at he
   ·cases he
   ·rename_i cs hcs
    obtain ⟨c, e, hh, hsz, hlab, hc⟩ := h.objs o cs hcs
    have hcell : ∀ j v, c[j]? = some v → w.cell? ⟨φ o, j, none⟩ = some v := fun j v hj => by simp [World.cell?, hh, hj]
    split at he
    ·rename_i hagg
     split at he
     ·rename_i ds hds
      cases he
      obtain ⟨hl, hget⟩ := aggOf_get hds
      have hrc : RC w (Fz ow) 0 ds (fun j => c[j]?) off [] :=
       RC.ofCells (g := fun j => c[j]?) (fun j m p hj => by obtain ⟨v, h1, _, _, h4⟩ := hc j m p hj; exact ⟨v, h1, h4⟩) ds off (fun j x hj => by have := hget j x hj; simpa using this)
      obtain ⟨vs, hvl, hvg, hvr⟩ := RC.vals hrc
      refine ⟨.agg vs.toArray, ?_, own0 ?_, rfl⟩
      ·have : ∀ j v, vs[j]? = some v → w.cell? ((Addr.mk (φ o) off none).add j) = some v := fun j v hj => by
        rw [addr_add]; exact hcell _ _ (hvg j v hj)
       simpa [Instr.loadAt, Instr.sureAddr] using run_loadVar_agg hti hagg (hvl.trans hl) this
      ·simp only [RP]
       exact ⟨vs.toArray, rfl, by simpa using hvl, hvr _ 0 (fun j v hj => by simpa using hj)⟩
     ·cases he
    ·rename_i hagg
     have hagg : ti.k.isAgg = false := by simpa using hagg
     split at he
     ·rename_i p hp
      cases he
      obtain ⟨v, h1, _, _, h4⟩ := hc off 0 p hp
      refine ⟨v, by simpa [Instr.loadAt, Instr.sureAddr] using run_loadVar_cell hti hagg (hcell _ _ h1), ?_, rfl⟩
      obtain ⟨B, hr, _, _⟩ := h4
      obtain rfl := RP.zeroB hr
      exact own0 hr
     ·rename_i m p hp
      cases he
      obtain ⟨v, h1, _, _, h4⟩ := hc off _ p hp
      exact ⟨v, by simpa [Instr.loadAt, Instr.sureAddr] using run_loadVar_cell hti hagg (hcell _ _ h1), ⟨hon, hlab, hcell _ _ h1⟩, rfl⟩
     ·cases he
  ·rename_i o off ha
   obtain ⟨hv, hon⟩ := opd_rel h ha
   rw [hv]
   split at he
   ·rename_i cs p orc0 hcs
    split at he
    ·cases he
    ·rename_i hagg
     have hagg : ti.k.isAgg = false := by simpa using hagg
     cases he
     obtain ⟨h1, _⟩ := ho
     obtain ⟨c, e, hh, hsz, hlab, hc⟩ := h.objs o cs hcs
     obtain ⟨v, h1, _, _, h4⟩ := hc off 0 p h1
     refine ⟨v, by simpa [Instr.loadAt, Instr.sureAddr] using run_loadVar_cell hti hagg (a := ⟨φ o, off, none⟩) (by simp [World.cell?, hh, h1]), ?_, rfl⟩
     obtain ⟨B, hr, _, _⟩ := h4
     obtain rfl := RP.zeroB hr
     exact own0 hr
   ·cases he
  ·rename_i cs ha
   obtain ⟨b, off, hv, hz, hr⟩ := opd_rel h ha
   rw [hv]
   split at he
   ·rename_i hagg
    split at he
    ·rename_i hl
     have hl : (cs.take ti.size).length = ti.size := Nat.eq_of_beq_eq_true hl
     cases he
     obtain ⟨vs, hvl, hvg, hvr⟩ := RC.vals (RC.take _ _ _ ti.size hr)
     refine ⟨.agg vs.toArray, ?_, own0 ?_, rfl⟩
     ·have : ∀ j v, vs[j]? = some v → w.cell? ((Addr.mk b off none).add j) = some v := fun j v hj => by
       rw [addr_add]; exact hvg j v hj
      simpa [Instr.loadAt, Instr.sureAddr] using run_loadVar_agg hti hagg (hvl.trans hl) this
     ·simp only [RP]
      exact ⟨vs.toArray, rfl, by simpa using hvl, hvr _ 0 (fun j v hj => by simpa using hj)⟩
    ·cases he
   ·rename_i hagg
    have hagg : ti.k.isAgg = false := by simpa using hagg
    split at he
    ·rename_i c r
     cases he
     simp only [RC] at hr
     obtain ⟨v, B1, B2, hg, hB, h1, h2⟩ := hr
     obtain ⟨rfl, rfl⟩ := List.append_eq_nil_iff.1 hB.symm
     exact ⟨v, by simpa [Instr.loadAt, Instr.sureAddr] using run_loadVar_cell hti hagg (a := ⟨b, off, none⟩) hg, own0 (by simpa only [RP] using h1), rfl⟩
    ·cases he
  ·rename_i cs ha
   obtain ⟨B0, hB0, _, _⟩ := opd_rel h ha
   simp only [RP] at hB0
   obtain ⟨b, off, hv, _, hz, hr⟩ := hB0
   rw [hv]
   split at he
   ·rename_i hagg
    split at he
    ·rename_i hl
     have hl : (cs.take ti.size).length = ti.size := Nat.eq_of_beq_eq_true hl
     cases he
     obtain ⟨vs, hvl, hvg, hvr⟩ := RC.vals (RC.take _ _ _ ti.size hr)
     refine ⟨.agg vs.toArray, ?_, own0 ?_, rfl⟩
     ·have : ∀ j v, vs[j]? = some v → w.cell? ((Addr.mk b off none).add j) = some v := fun j v hj => by
       rw [addr_add]; exact hvg j v hj
      simpa [Instr.loadAt, Instr.sureAddr] using run_loadVar_agg hti hagg (hvl.trans hl) this
     ·simp only [RP]
      exact ⟨vs.toArray, rfl, by simpa using hvl, hvr _ 0 (fun j v hj => by simpa using hj)⟩
    ·cases he
   ·rename_i hagg
    have hagg : ti.k.isAgg = false := by simpa using hagg
    split at he
    ·rename_i c r
     cases he
     simp only [RC] at hr
     obtain ⟨v, B1, B2, hg, hB, h1, h2⟩ := hr
     obtain ⟨rfl, rfl⟩ := List.append_eq_nil_iff.1 hB.symm
     exact ⟨v, by simpa [Instr.loadAt, Instr.sureAddr] using run_loadVar_cell hti hagg (a := ⟨b, off, none⟩) hg, own0 (by simpa only [RP] using h1), rfl⟩
    ·cases he
  ·rename_i p s i o ha
   obtain ⟨a', len, cap', hd, hsp, hv⟩ := opd_rel h ha
   rw [hv]
   split at he
   ·rename_i m s' xs obs0 c orc0 hc
    split at he
    ·rename_i hs
     have hs : s = s' := Nat.eq_of_beq_eq_true hs
     subst hs
     have key : AllP obs0 → xs[i]? = some c → ∃ B, RC w (Fz ow) m c (mem w a'.block) (a'.off + i * s) B ∧ (∀ b ∈ B, ow b = p.root) ∧ (ow a'.block = p.root ∨ m = 0 ∧ ow a'.block = .frz) := by
      intro ho0 hxi
      obtain ⟨v, hv', hs1, a2, cap, B, hve, hcap, hsp', hnone, hrx⟩ := contD_sound h p _ hc ho0
      have hne : xs ≠ [] := by intro e'; subst e'; simp at hxi
      obtain ⟨q, rfl, hlab, hrx, hB⟩ := hrx hne
      have := Pl.Hd.unique hd hv'
      rw [hve] at this
      cases this
      obtain ⟨hlen, B1, B0, B2, hBe, hrc⟩ := RX.get _ _ _ _ _ _ _ _ hrx hxi
      exact ⟨B1, hrc, fun b hb => hB b (by rw [hBe]; simp [hb]), hlab⟩
     split at he
     ·rename_i hagg
      split at he
      ·rename_i hm
       have hm : m = 0 := Nat.eq_of_beq_eq_true hm
       subst hm
       split at he
       ·rename_i hl
        have hl : ((c.drop o).take ti.size).length = ti.size := Nat.eq_of_beq_eq_true hl
        cases he
        rw [AllP.append] at ho
        obtain ⟨ho0, hxi, _⟩ := ho
        obtain ⟨B, hrc, _, _⟩ := key ho0 hxi
        obtain rfl := RC.zeroB _ _ _ hrc
        obtain ⟨vs, hvl, hvg, hvr⟩ := RC.vals (RC.take _ _ _ ti.size (RC.drop _ _ _ o hrc))
        refine ⟨.agg vs.toArray, ?_, own0 ?_, rfl⟩
        ·have : ∀ j v, vs[j]? = some v → w.cell? ((Addr.mk a'.block (a'.off + i * s + o) none).add j) = some v := fun j v hj => by
          rw [addr_add]; exact hvg j v hj
         simpa [Instr.loadAt, Instr.sureAddr] using run_loadVar_agg hti hagg (hvl.trans hl) this
        ·simp only [RP]
         exact ⟨vs.toArray, rfl, by simpa using hvl, hvr _ 0 (fun j v hj => by simpa using hj)⟩
       ·cases he
      ·cases he
     ·rename_i hagg
      have hagg : ti.k.isAgg = false := by simpa using hagg
      split at he
      ·rename_i x hx
       cases he
       rw [AllP.append] at ho
       obtain ⟨ho0, hxi, _⟩ := ho
       obtain ⟨B, hrc, _, _⟩ := key ho0 hxi
       obtain ⟨v, C0, C1, C2, hu, hCe, hrd⟩ := RC.get _ _ _ _ _ _ hrc hx
       obtain rfl := RD.zeroB hrd
       exact ⟨v, by simpa [Instr.loadAt, Instr.sureAddr] using run_loadVar_cell hti hagg (a := ⟨a'.block, a'.off + i * s + o, none⟩) hu, own0 (by simpa only [RP] using hrd), rfl⟩
      ·rename_i m' s2 ys hx
       cases he
       rw [AllP.append] at ho
       obtain ⟨ho0, hxi, _⟩ := ho
       obtain ⟨B, hrc, hBl, hlab⟩ := key ho0 hxi
       obtain ⟨v, C0, C1, C2, hu, hCe, hrd⟩ := RC.get _ _ _ _ _ _ hrc hx
       refine ⟨v, by simpa [Instr.loadAt, Instr.sureAddr] using run_loadVar_cell hti hagg (a := ⟨a'.block, a'.off + i * s + o, none⟩) hu, ⟨a', len, cap', hd, ?_, hu⟩, rfl⟩
       rcases hlab with hl | ⟨hm, _⟩
       ·exact hl
       ·simp at hm
      ·rename_i m' k n hx
       cases he
       rw [AllP.append] at ho
       obtain ⟨ho0, hxi, _⟩ := ho
       obtain ⟨B, hrc, _, _⟩ := key ho0 hxi
       obtain ⟨v, C0, C1, C2, hu, hCe, hrd⟩ := RC.get _ _ _ _ _ _ hrc hx
       refine ⟨v, by simpa [Instr.loadAt, Instr.sureAddr] using run_loadVar_cell hti hagg (a := ⟨a'.block, a'.off + i * s + o, none⟩) hu, own0 ?_, rfl⟩
       simp only [RD] at hrd
       simp only [RP, RD]; exact ⟨hrd.1, trivial⟩
      ·rename_i m' k hx
       cases he
       rw [AllP.append] at ho
       obtain ⟨ho0, hxi, _⟩ := ho
       obtain ⟨B, hrc, _, _⟩ := key ho0 hxi
       obtain ⟨v, C0, C1, C2, hu, hCe, hrd⟩ := RC.get _ _ _ _ _ _ hrc hx
       refine ⟨v, by simpa [Instr.loadAt, Instr.sureAddr] using run_loadVar_cell hti hagg (a := ⟨a'.block, a'.off + i * s + o, none⟩) hu, own0 ?_, rfl⟩
       simp only [RD] at hrd
       simp only [RP, RD]; exact ⟨hrd.1, trivial⟩
      ·cases he
    ·cases he
   ·cases he
  ·cases he


def strAt (s : ByteArray) (i : Int) : Int := ((s.data[i.toNat]?).getD 0).toNat
def mnI (x y : Int) : Int := if y < x then y else x
def mxI (x y : Int) : Int := if y > x then y else x
def evLen (T : Tab) (env : Env) (objs : Objs) (t : Nat) (x : Operand) (orc : List Orc) : Option (It × List Prop × List Orc) :=
 match tab T t with
 | some ⟨_, _, _, .slice _⟩ => match opd env x with
  | some (.v _ (.d (.sl _ xs))) => some (.v 0 (.d (.int .i64 xs.length)), [], orc)
  | some (.ap _ xs) => some (.v 0 (.d (.int .i64 xs.length)), [], orc)
  | some .nils => some (.v 0 (.d (.int .i64 0)), [], orc)
  | some (.b p) => match contD env objs p orc with
   | some ((_, _, xs), obs, orc') => some (.v 0 (.d (.int .i64 xs.length)), obs, orc')
   | none => none
  | some (.bc _ _ _ n) => some (.v 0 (.d (.int .i64 n)), [], orc)
  | _ => none
 | some ⟨_, _, _, .str⟩ => match opd env x with
  | some (.v 0 (.d (.str s))) => some (.v 0 (.d (.int .i64 s.size)), [], orc)
  | _ => none
 | _ => none
theorem RD.len {w : World} {Z : Nat → Prop} {m s : Nat} {xs : List (List D)} {v : Value} {B : List Nat} (h : RD w Z m (.sl s xs) v B) : ∃ a cap, v = .slice a xs.length cap := by
 cases m with
 | zero => simp only [RD] at h; obtain ⟨_, _, a, cap, hv, _⟩ := h; exact ⟨a, cap, hv⟩
 | succ m =>
  simp only [RD] at h
  rcases h with ⟨_, ⟨hv, rfl, _⟩ | ⟨blk, off, cap, _, _, _, hv, _⟩⟩
  ·exact ⟨none, 0, hv⟩
  ·exact ⟨_, cap, hv⟩
theorem run_len_slice {P : Program} {w : World} {t e ty : TypeId} {it : TI} (ht : tiOf P t = some it) (hk : it.k = .slice e) {a : Option Addr} {n cap : Nat} :
  (Builtin.len_ #[t] ty #[.slice a n cap]).run P w = .ok (.int .i64 n) w := by
 obtain ⟨inf, d, i1, i2, i3, i4, i5⟩ := tiOf_spec ht
 rw [hk] at i5
 obtain rfl := tk_slice i5
 simp [Builtin.len_, run_und i2, goInt]
theorem run_len_str {P : Program} {w : World} {t ty : TypeId} {it : TI} (ht : tiOf P t = some it) (hk : it.k = .str) {s : ByteArray} :
  (Builtin.len_ #[t] ty #[.string s]).run P w = .ok (.int .i64 s.size) w := by
 obtain ⟨inf, d, i1, i2, i3, i4, i5⟩ := tiOf_spec ht
 rw [hk] at i5
 obtain rfl := tk_str i5
 simp [Builtin.len_, run_und i2, goInt]
theorem int0 {w : World} {ow : Nat → Lab} {φ : Nat → Nat} {n : Nat} {ts : Array Value} {l : Lab} (k : IntKind) (i : Int) : RV w ow φ n ts l (.v 0 (.d (.int k i))) (.int k i) := own0 (by simp [RP, RD])
theorem bool0 {w : World} {ow : Nat → Lab} {φ : Nat → Nat} {n : Nat} {ts : Array Value} {l : Lab} (b : Bool) : RV w ow φ n ts l (.v 0 (.d (.bool b))) (.bool b) := own0 (by simp [RP, RD])
theorem str0 {w : World} {ow : Nat → Lab} {φ : Nat → Nat} {n : Nat} {ts : Array Value} {l : Lab} (s : ByteArray) : RV w ow φ n ts l (.v 0 (.d (.str s))) (.string s) := own0 (by simp [RP, RD])
theorem evLen_sound {P : Program} {T : Tab} (hT : TOK P T) {N : Nat} {w : World} {ow : Nat → Lab} {φ : Nat → Nat} {ts : Array Value} {st : St} (h : Rel N w ow φ ts st)
  {t ty : Nat} {x : Operand} {orc orc' : List Orc} {it : It} {obs : List Prop} (he : evLen T st.env st.objs t x orc = some (it, obs, orc')) (ho : AllP obs) :
  ∃ v, (Builtin.len_ #[t] ty #[evalT ts x]).run P w = .ok v w ∧ RV w ow φ st.objs.length ts .free it v ∧ it.free = true := by
 unfold evLen at he
 split at he
 ·rename_i sz bz zz e ht
  split at he
  ·rename_i m s xs hx
   cases he
   obtain ⟨B, hr, _, _⟩ := opd_rel h hx
   simp only [RP] at hr
   obtain ⟨a, cap, hv⟩ := RD.len hr
   rw [hv]
   exact ⟨_, run_len_slice (hT _ _ ht) rfl, int0 _ _, rfl⟩
  ·rename_i s xs hx
   cases he
   rcases opd_rel h hx with ⟨B, hr, _, _⟩ | ⟨a, hv, _⟩
   ·simp only [RP] at hr
    obtain ⟨a, cap, hv⟩ := RD.len hr
    rw [hv]
    exact ⟨_, run_len_slice (hT _ _ ht) rfl, int0 _ _, rfl⟩
   ·rw [hv]
    exact ⟨_, run_len_slice (hT _ _ ht) rfl, int0 _ _, rfl⟩
  ·rename_i hx
   cases he
   have hv : evalT ts x = .slice none 0 0 := opd_rel h hx
   rw [hv]
   exact ⟨_, run_len_slice (hT _ _ ht) rfl, int0 _ _, rfl⟩
  ·rename_i p hx
   split at he
   ·rename_i m s xs obs0 orc0 hc
    cases he
    obtain ⟨v, hv, hs1, a, cap, B, hve, _⟩ := contD_sound h p _ hc ho
    have := Pl.Hd.unique (opd_rel h hx) hv
    rw [this, hve]
    exact ⟨_, run_len_slice (hT _ _ ht) rfl, int0 _ _, rfl⟩
   ·cases he
  ·rename_i p s lo n hx
   cases he
   rcases opd_rel h hx with ⟨_, hk0, _, hv⟩ | ⟨a, len, cap, a', cap', _, _, _, hv, _⟩
   ·rw [hv, hk0]
    exact ⟨_, run_len_slice (hT _ _ ht) rfl, int0 _ _, rfl⟩
   ·rw [hv]
    exact ⟨_, run_len_slice (hT _ _ ht) rfl, int0 _ _, rfl⟩
  ·cases he
 ·rename_i sz bz zz ht
  split at he
  ·rename_i s hx
   cases he
   obtain ⟨B, hr, _, _⟩ := opd_rel h hx
   simp only [RP, RD] at hr
   rw [hr.1]
   exact ⟨_, run_len_str (hT _ _ ht) rfl, int0 _ _, rfl⟩
  ·cases he
 ·cases he
def evBound (env : Env) : Option Operand → Option (Option Int)
 | none => some none
 | some x => match opd env x with
  | some (.v 0 (.d (.int _ n))) => some (some n)
  | _ => none
theorem evBound_run {N : Nat} {w : World} {ow : Nat → Lab} {φ : Nat → Nat} {ts : Array Value} {st : St} (h : Rel N w ow φ ts st) {x : Option Operand} {r : Option Int} (hx : evBound st.env x = some r) :
  (r = none ∧ x = none) ∨ ∃ o k n, x = some o ∧ r = some n ∧ evalT ts o = .int k n := by
 unfold evBound at hx
 split at hx
 ·cases hx; exact .inl ⟨rfl, rfl⟩
 ·split at hx
  ·rename_i o _ k n ho
   cases hx
   obtain ⟨B, hr, _, _⟩ := opd_rel h ho
   simp only [RP, RD] at hr
   exact .inr ⟨_, _, _, rfl, rfl, hr.1⟩
  ·cases hx
def cutL (xs : List (List D)) (lo hi : Option Int) : List (List D) :=
 match lo, hi with
 | none, none => xs
 | none, some b => xs.take b.toNat
 | some a, none => xs.drop a.toNat
 | some a, some b => (xs.take b.toNat).drop a.toNat
def cutObs (n : Nat) (lo hi : Option Int) : List Prop :=
 match lo, hi with
 | none, none => []
 | none, some b => [0 ≤ b, b ≤ n]
 | some a, none => [0 ≤ a, a ≤ n]
 | some a, some b => [0 ≤ a, a ≤ b, b ≤ n]
def cutLo (lo : Option Int) : Nat := match lo with | none => 0 | some a => a.toNat
def cutN (n : Nat) (lo hi : Option Int) : Nat :=
 match lo, hi with
 | none, none => n
 | none, some b => b.toNat
 | some a, none => n - a.toNat
 | some a, some b => b.toNat - a.toNat
def strHi (n : Nat) (hi : Option Int) : Nat := match hi with | none => n | some b => b.toNat
def evSlice (T : Tab) (env : Env) (objs : Objs) (t : Nat) (x : Operand) (lo hi mx : Option Operand) (orc : List Orc) : Option (It × List Prop × List Orc) :=
 match tab T t, evBound env lo, evBound env hi, evBound env mx with
 | some ⟨_, _, _, .slice e⟩, some lo, some hi, some mx =>
  match tab T e with
  | none => none
  | some ie =>
  match opd env x, mx with
  | some (.v 0 (.d (.sl s xs))), none => if Nat.beq s ie.size then some (.v 0 (.d (.sl s (cutL xs lo hi))), cutObs xs.length lo hi, orc) else none
  | some (.v 0 (.d (.sl s xs))), some m => match hi with
   | some b => if Nat.beq s ie.size then some (.ap s (cutL xs lo (some b)), (m = b) :: cutObs xs.length lo (some b), orc) else none
   | none => none
  | some (.b p), none => match contD env objs p orc with
   | some ((_, s, xs), obs, orc') => if Nat.beq s ie.size then some (.bc p s (cutLo lo) (cutN xs.length lo hi), obs ++ cutObs xs.length lo hi, orc') else none
   | none => none
  | some (.bc p s l n), none => if Nat.beq s ie.size then some (.bc p s (l + cutLo lo) (cutN n lo hi), cutObs n lo hi, orc) else none
  | _, _ => none
 | some ⟨_, _, _, .str⟩, some lo, some hi, some none =>
  match opd env x with
  | some (.v 0 (.d (.str s))) => some (.v 0 (.d (.str (s.extract (cutLo lo) (strHi s.size hi)))), cutObs s.size lo hi, orc)
  | _ => none
 | _, _, _, _ => none


section runs
variable {P : Program} {w : World}
theorem run_sliceBound {k : IntKind} {i : Int} {y : Nat} {c : BoundsCode} (h0 : 0 ≤ i) (h1 : i ≤ y) : (Instr.sliceBound (.int k i) y c).run P w = .ok i.toNat w := by
 simp [Instr.sliceBound, asIntOf, h0, h1]
inductive BV : Option Value → Option Int → Prop
 | no : BV none none
 | yes (k : IntKind) (n : Int) : BV (some (.int k n)) (some n)
theorem BV.of {N : Nat} {w : World} {ow : Nat → Lab} {φ : Nat → Nat} {ts : Array Value} {st : St} (h : Rel N w ow φ ts st) {x : Option Operand} {r : Option Int} (hx : evBound st.env x = some r) :
  BV (x.map (evalT ts)) r := by
 rcases evBound_run h hx with ⟨rfl, rfl⟩ | ⟨o, k, n, rfl, rfl, hv⟩
 ·exact .no
 ·simp only [Option.map_some, hv]; exact .yes k n
theorem run_sliceBounds {s : Bool} {len cap : Nat} {lo hi : Option Value} {lo' hi' : Option Int} (hl : BV lo lo') (hh : BV hi hi') (hc : len ≤ cap) (ho : AllP (cutObs len lo' hi')) :
  (Instr.sliceBounds s len cap lo hi none).run P w = .ok (cutLo lo', cutLo lo' + cutN len lo' hi', cap) w ∧ cutLo lo' + cutN len lo' hi' ≤ len := by
 cases hl with
 | no =>
  cases hh with
  | no => simp [Instr.sliceBounds, cutLo, cutN]
  | yes k n =>
   obtain ⟨h0, h1, _⟩ := ho
   have h2 : n ≤ cap := by omega
   simp [Instr.sliceBounds, run_sliceBound h0 h2, cutLo, cutN]; omega
 | yes k m =>
  cases hh with
  | no =>
   obtain ⟨h0, h1, _⟩ := ho
   simp [Instr.sliceBounds, run_sliceBound h0 h1, cutLo, cutN]; omega
  | yes k' n =>
   obtain ⟨h0, h1, h2, _⟩ := ho
   have h3 : n ≤ cap := by omega
   have h4 : 0 ≤ n := by omega
   have h5 : m ≤ (n.toNat : Int) := by omega
   simp [Instr.sliceBounds, run_sliceBound h4 h3, run_sliceBound h0 h5, cutLo, cutN]; omega
theorem run_sliceAt {t e : TypeId} {it ie : TI} (ht : tiOf P t = some it) (hk : it.k = .slice e) (he : tiOf P e = some ie) {a : Option Addr} {len cap : Nat} {lo hi mx : Option Value} {l h m : Nat}
  (hb : (Instr.sliceBounds true len cap lo hi mx).run P w = .ok (l, h, m) w) :
  (Instr.sliceAt t (.slice a len cap) lo hi mx).run P w = .ok (.slice (if m = l then a else a.map (·.add (l * ie.size))) (h - l) (m - l)) w := by
 obtain ⟨inf, d, i1, i2, i3, i4, i5⟩ := tiOf_spec ht
 obtain ⟨inf', d', j1, j2, j3, j4, j5⟩ := tiOf_spec he
 rw [hk] at i5
 obtain rfl := tk_slice i5
 simp [Instr.sliceAt, Instr.slice, run_und i2, hb, run_size j1, j3]
theorem run_sliceAt_str {t : TypeId} {it : TI} (ht : tiOf P t = some it) (hk : it.k = .str) {s : ByteArray} {lo hi : Option Value} {l h m : Nat}
  (hb : (Instr.sliceBounds false s.size s.size lo hi none).run P w = .ok (l, h, m) w) : (Instr.sliceAt t (.string s) lo hi none).run P w = .ok (.string (s.extract l h)) w := by
 obtain ⟨inf, d, i1, i2, i3, i4, i5⟩ := tiOf_spec ht
 rw [hk] at i5
 obtain rfl := tk_str i5
 simp [Instr.sliceAt, Instr.slice, run_und i2, hb]
end runs
theorem cutL_length {xs : List (List D)} {lo hi : Option Int} (h : AllP (cutObs xs.length lo hi)) : (cutL xs lo hi).length = cutN xs.length lo hi := by
 cases lo <;> cases hi <;> simp [cutL, cutN, cutObs, AllP] at h ⊢ <;> omega
theorem cutL_RX {w : World} {Z : Nat → Prop} {m s : Nat} {xs : List (List D)} {blk off : Nat} {lo hi : Option Int} (h : RX w Z m s xs blk off []) :
  RX w Z m s (cutL xs lo hi) blk (off + cutLo lo * s) [] := by
 cases lo <;> cases hi <;> simp only [cutL, cutLo, Nat.zero_mul, Nat.add_zero]
 ·exact h
 ·exact RX.take _ _ _ _ _ _ h
 ·exact RX.drop _ _ _ _ _ _ h
 ·exact RX.drop _ _ _ _ _ _ (RX.take _ _ _ _ _ _ h)
theorem cutL_nil {xs : List (List D)} {lo hi : Option Int} (h : cutL xs lo hi ≠ []) : xs ≠ [] := by
 intro e; subst e
 cases lo <;> cases hi <;> simp [cutL] at h
theorem RD.cut {w : World} {Z : Nat → Prop} {s : Nat} {xs : List (List D)} {lo hi : Option Int} {a : Option Addr} {cap m sz : Nat} (hsz : s = sz)
  (h : RD w Z 0 (.sl s xs) (.slice a xs.length cap) []) (ho : AllP (cutObs xs.length lo hi)) (hm : cutLo lo + cutN xs.length lo hi ≤ m) (hmc : m ≤ cap) :
  RD w Z 0 (.sl s (cutL xs lo hi)) (.slice (if m = cutLo lo then a else a.map (·.add (cutLo lo * sz))) (cutLo lo + cutN xs.length lo hi - cutLo lo) (m - cutLo lo)) [] := by
 subst hsz
 simp only [RD] at h ⊢
 obtain ⟨_, hs, a', cap', hv, hcap, hsp, hnone, hrx⟩ := h
 cases hv
 refine ⟨trivial, hs, _, _, by rw [cutL_length ho]; congr 1; omega, by rw [cutL_length ho]; omega, ?_, ?_, fun hne => ?_⟩
 ·intro p hp hc0
  split at hp
  ·omega
  ·cases a with
   | none => simp at hp
   | some q =>
    simp only [Option.map_some, Option.some.injEq] at hp
    subst hp
    have := hsp q rfl (by omega)
    obtain ⟨b, o, sp⟩ := q
    simp only at this; subst this
    rw [addr_add]
 ·intro hn
  split at hn
  ·have := hnone hn; omega
  ·cases a with
   | none => have := hnone rfl; omega
   | some q => simp at hn
 ·obtain ⟨q, rfl, hz, hr⟩ := hrx (cutL_nil hne)
  have hsp' := hsp q rfl (by have := List.length_pos_iff.2 (cutL_nil hne); omega)
  obtain ⟨b, o, sp⟩ := q
  simp only at hsp'; subst hsp'
  have hlen : 0 < cutN xs.length lo hi := by
   rw [← cutL_length ho]
   cases hcl : cutL xs lo hi with
   | nil => exact absurd hcl hne
   | cons y ys => simp
  rw [if_neg (by omega)]
  refine ⟨⟨b, o + cutLo lo * s, none⟩, by simp [addr_add], hz, cutL_RX hr⟩
theorem evSlice_sound {P : Program} {T : Tab} (hT : TOK P T) {N : Nat} {w : World} {ow : Nat → Lab} {φ : Nat → Nat} {ts : Array Value} {st : St} (h : Rel N w ow φ ts st)
  {t : Nat} {x : Operand} {lo hi mx : Option Operand} {orc orc' : List Orc} {it : It} {obs : List Prop} (he : evSlice T st.env st.objs t x lo hi mx orc = some (it, obs, orc')) (ho : AllP obs) :
  ∃ v, (Instr.sliceAt t (evalT ts x) (lo.map (evalT ts)) (hi.map (evalT ts)) (mx.map (evalT ts))).run P w = .ok v w ∧ ((RV w ow φ st.objs.length ts .free it v ∧ it.free = true) ∨ ∃ s xs a, it = .ap s xs ∧ v = .slice a xs.length xs.length ∧ RD w (Fz ow) 0 (.sl s xs) (.slice a xs.length xs.length) []) := by
 unfold evSlice at he
 split at he
 ·rename_i sz bz zz e lo' hi' mx' ht hlo hhi hmx
  have bl := BV.of h hlo
  have bh := BV.of h hhi
  have bm := BV.of h hmx
  split at he
  ·cases he
  ·rename_i ie hte
   split at he
   ·-- a cut of what nobody writes
    rename_i s xs hx
    split at he
    ·rename_i hs
     have hs : s = ie.size := Nat.eq_of_beq_eq_true hs
     cases he
     obtain ⟨B, hr, _, _⟩ := opd_rel h hx
     simp only [RP] at hr
     obtain rfl := RD.zeroB hr
     obtain ⟨a, cap, hv⟩ := RD.len hr
     rw [hv] at hr ⊢
     have hcap : xs.length ≤ cap := by
      simp only [RD] at hr
      obtain ⟨_, _, a', cap', hv', hcap, _⟩ := hr
      cases hv'; exact hcap
     generalize mx.map (evalT ts) = mxv at bm ⊢
     cases bm
     obtain ⟨hb, hle⟩ := run_sliceBounds (P := P) (w := w) (s := true) bl bh hcap ho
     exact ⟨_, run_sliceAt (hT _ _ ht) rfl (hT _ _ hte) hb, .inl ⟨own0 (by simp only [RP]; exact RD.cut hs hr ho (by omega) (Nat.le_refl _)), rfl⟩⟩
    ·cases he
   ·rename_i s xs m hx
    split at he
    ·rename_i b
     split at he
     ·rename_i hs
      have hs : s = ie.size := Nat.eq_of_beq_eq_true hs
      cases he
      obtain ⟨hmb, ho⟩ := ho
      subst hmb
      obtain ⟨B, hr, _, _⟩ := opd_rel h hx
      simp only [RP] at hr
      obtain rfl := RD.zeroB hr
      obtain ⟨a, cap, hv⟩ := RD.len hr
      rw [hv] at hr ⊢
      have hcap : xs.length ≤ cap := by
       simp only [RD] at hr
       obtain ⟨_, _, a', cap', hv', hcap, _⟩ := hr
       cases hv'; exact hcap
      -- the bounds: high and max are one
      generalize hi.map (evalT ts) = hiv at bh
      generalize mx.map (evalT ts) = mxv at bm
      cases bm with | yes km _ =>
      cases bh with | yes kh _ =>
      have hrun : (Instr.sliceBounds true xs.length cap (lo.map (evalT ts)) (some (.int kh m)) (some (.int km m))).run P w = .ok (cutLo lo', m.toNat, m.toNat) w ∧ cutLo lo' + cutN xs.length lo' (some m) = m.toNat ∧ m.toNat ≤ xs.length := by
       generalize lo.map (evalT ts) = lov at bl
       cases bl with
       | no =>
        obtain ⟨h0, h1, _⟩ := ho
        have h2 : m ≤ (cap : Int) := by omega
        have h3 : m ≤ (m.toNat : Int) := by omega
        refine ⟨?_, by simp [cutLo, cutN], by omega⟩
        simp [Instr.sliceBounds, run_sliceBound h0 h2, run_sliceBound h0 h3, cutLo]
       | yes kl l =>
        obtain ⟨h0, h1, h2, _⟩ := ho
        have h4 : 0 ≤ m := by omega
        have h5 : m ≤ (cap : Int) := by omega
        have h6 : m ≤ (m.toNat : Int) := by omega
        have h7 : l ≤ (m.toNat : Int) := by omega
        refine ⟨?_, by simp [cutLo, cutN]; omega, by omega⟩
        simp [Instr.sliceBounds, run_sliceBound h4 h5, run_sliceBound h4 h6, run_sliceBound h0 h7, cutLo]
      obtain ⟨hb, e1, e2⟩ := hrun
      have hq := RD.cut hs hr ho (m := m.toNat) (by omega) (by omega)
      refine ⟨_, run_sliceAt (hT _ _ ht) rfl (hT _ _ hte) hb, .inr ⟨s, cutL xs lo' (some m), (if m.toNat = cutLo lo' then a else a.map (·.add (cutLo lo' * ie.size))), rfl, ?_, ?_⟩⟩
      ·rw [cutL_length ho]
       have e4 : m.toNat - cutLo lo' = cutN xs.length lo' (some m) := by omega
       rw [e4]
      ·rw [cutL_length ho]
       have e3 : cutLo lo' + cutN xs.length lo' (some m) - cutLo lo' = cutN xs.length lo' (some m) := by omega
       have e4 : m.toNat - cutLo lo' = cutN xs.length lo' (some m) := by omega
       rw [e3, e4] at hq
       exact hq
     ·cases he
    ·cases he
   ·rename_i p hx
    split at he
    ·rename_i m s xs obs0 orc0 hc
     split at he
     ·rename_i hs
      have hs : s = ie.size := Nat.eq_of_beq_eq_true hs
      cases he
      rw [AllP.append] at ho
      obtain ⟨ho0, ho⟩ := ho
      obtain ⟨v, hv, hs1, a, cap, B, hve, hcap, hsp, hnone, hrx⟩ := contD_sound h p _ hc ho0
      have := Pl.Hd.unique (opd_rel h hx) hv
      rw [this, hve]
      generalize mx.map (evalT ts) = mxv at bm ⊢
      cases bm
      obtain ⟨hb, hle⟩ := run_sliceBounds (P := P) (w := w) (s := true) bl bh hcap ho
      refine ⟨_, run_sliceAt (hT _ _ ht) rfl (hT _ _ hte) hb, .inl ⟨?_, rfl⟩⟩
      rw [hve] at hv
      cases a with
      | none =>
       obtain rfl := hnone rfl
       have hx0 : xs = [] := List.length_eq_zero_iff.1 (by omega)
       subst hx0
       refine .inl ⟨hv, ?_, ?_, ?_⟩
       ·simp only [List.length_nil] at hle ⊢; omega
       ·simp only [List.length_nil] at hle; omega
       ·simp only [List.length_nil] at hle ⊢
        have e1 : cutLo lo' = 0 := by omega
        have e2 : cutN 0 lo' hi' = 0 := by omega
        rw [e1, e2]; simp
      | some q =>
       have hsp' := hsp q rfl
       obtain ⟨bb, oo, sp⟩ := q
       simp only at hsp'
       have e1 : cutLo lo' + cutN xs.length lo' hi' - cutLo lo' = cutN xs.length lo' hi' := by omega
       rw [e1]
       by_cases hc : cap = cutLo lo'
       ·rw [if_pos hc]
        exact .inr ⟨_, _, _, _, _, hv, hsp', fun h => absurd (by omega : cap - cutLo lo' = 0) h, rfl, rfl, by omega, by omega, .inr (by omega)⟩
       ·rw [if_neg hc]
        obtain rfl := hsp' (by omega)
        refine .inr ⟨_, _, _, ⟨bb, oo + cutLo lo' * ie.size, none⟩, cap - cutLo lo', hv, fun _ => rfl, fun _ => rfl, by rw [Option.map_some, addr_add], rfl, by omega, by omega, .inl (by rw [hs])⟩
     ·cases he
    ·cases he
   ·rename_i p s l n hx
    split at he
    ·rename_i hs
     have hs : s = ie.size := Nat.eq_of_beq_eq_true hs
     cases he
     generalize mx.map (evalT ts) = mxv at bm ⊢
     cases bm
     rcases opd_rel h hx with ⟨hd, hk0, hl0, hv⟩ | ⟨a, len, cap, a', cap', hd, hsp, hsp', hv, hblk, hc1, hc2, hoff⟩
     ·subst hk0; subst hl0
      rw [hv]
      obtain ⟨hb, hle⟩ := run_sliceBounds (P := P) (w := w) (s := true) (len := 0) (cap := 0) bl bh (Nat.le_refl _) ho
      refine ⟨_, run_sliceAt (hT _ _ ht) rfl (hT _ _ hte) hb, .inl ⟨.inl ⟨hd, by omega, by omega, ?_⟩, rfl⟩⟩
      have e1 : cutLo lo' = 0 := by omega
      have e2 : cutN 0 lo' hi' = 0 := by omega
      rw [e1, e2]; simp
     ·rw [hv]
      obtain ⟨hb, hle⟩ := run_sliceBounds (P := P) (w := w) (s := true) bl bh hc2 ho
      refine ⟨_, run_sliceAt (hT _ _ ht) rfl (hT _ _ hte) hb, .inl ⟨?_, rfl⟩⟩
      obtain ⟨bb, oo, sp⟩ := a'
      simp only at hsp' hblk hoff
      have e1 : cutLo lo' + cutN n lo' hi' - cutLo lo' = cutN n lo' hi' := by omega
      rw [e1]
      by_cases hc : cap' = cutLo lo'
      ·rw [if_pos hc]
       exact .inr ⟨_, _, _, _, _, hd, hsp, fun h => absurd (by omega : cap' - cutLo lo' = 0) h, rfl, hblk, by omega, by omega, .inr (by omega)⟩
      ·rw [if_neg hc]
       obtain rfl := hsp' (by omega)
       refine .inr ⟨_, _, _, ⟨bb, oo + cutLo lo' * ie.size, none⟩, cap' - cutLo lo', hd, hsp, fun _ => rfl, by rw [Option.map_some, addr_add], hblk, by omega, by omega, ?_⟩
       rcases hoff with hoff | h0
       ·left; simp only; rw [hoff, hs, Nat.add_mul]; omega
       ·omega
    ·cases he
   ·cases he
 ·rename_i sz bz zz lo' hi' ht hlo hhi hmx
  have bl := BV.of h hlo
  have bh := BV.of h hhi
  have bm := BV.of h hmx
  split at he
  ·rename_i s hx
   cases he
   obtain ⟨B, hr, _, _⟩ := opd_rel h hx
   simp only [RP, RD] at hr
   rw [hr.1]
   rcases evBound_run h hmx with ⟨_, rfl⟩ | ⟨o, k, n, _, h2, _⟩
   ·obtain ⟨hb, hle⟩ := run_sliceBounds (P := P) (w := w) (s := false) bl bh (Nat.le_refl _) ho
    refine ⟨_, run_sliceAt_str (hT _ _ ht) rfl hb, .inl ⟨?_, rfl⟩⟩
    have : cutLo lo' + cutN s.size lo' hi' = strHi s.size hi' := by
     cases lo' <;> cases hi' <;> simp [cutLo, cutN, cutObs, AllP, strHi] at ho ⊢ <;> omega
    rw [this]
    exact str0 _
   ·cases h2
  ·cases he
 ·cases he


def intOf? : Option It → Option (IntKind × Int)
 | some (.v 0 (.d (.int k n))) => some (k, n)
 | _ => none
def evMinMax (f : Int → Int → Int) : List (Option It) → Option (IntKind × Int)
 | [x] => intOf? x
 | [x, y] => match intOf? x, intOf? y with
  | some (k, a), some (_, b) => some (k, f a b)
  | _, _ => none
 | [x, y, z] => match intOf? x, intOf? y, intOf? z with
  | some (k, a), some (_, b), some (_, c) => some (k, f (f a b) c)
  | _, _, _ => none
 | _ => none
def evPure (T : Tab) (env : Env) (objs : Objs) (op : Op) (orc : List Orc) : Option (It × List Prop × List Orc) :=
 match op with
 | .move x => match opd env x, x with
  | some (.v (_ + 1) (.d (.sl _ _))), .tmp t => some (.b (.slot t), [], orc)
  | some (.ap _ _), .tmp t => some (.b (.slot t), [], orc)
  | some it, _ => if it.free then some (it, [], orc) else none
  | none, _ => none
 | .assign x => match opd env x with
  | some (.b _) | some (.bc _ _ _ _) => none
  | some it => if it.free then some (it, [], orc) else none
  | none => none
 | .pick c a b => match opd env c with
  | some (.kb true) => match opd env a with
   | some it => if it.free then some (it, [], orc) else none
   | none => none
  | some (.kb false) => match opd env b with
   | some it => if it.free then some (it, [], orc) else none
   | none => none
  | _ => none
 | .binOp op _ x y _ => match opd env x, opd env y with
  | some (.v 0 a), some (.v 0 b) => match evBin op a b with
   | some (p, obs) => some (.v 0 p, obs, orc)
   | none => none
  | _, _ => none
 | .unOp op _ x => match op, opd env x with
  | .not, some (.v 0 (.d (.bool b))) => some (.v 0 (.d (.bool (!b))), [], orc)
  | .not, some (.kb b) => some (.kb (!b), [], orc)
  | .neg, some (.v 0 (.d (.int k n))) => some (.v 0 (.d (.int k (k.wrap (0 - n)))), [], orc)
  | .xor, some (.v 0 (.d (.int k n))) => some (.v 0 (.d (.int k (bitsI .xor k (if k.signed then -1 else k.max) n))), [], orc)
  | _, _ => none
 | .convert src dst x => match tab T src, tab T dst, opd env x with
  | some _, some ⟨_, _, _, .int k⟩, some (.v 0 (.d (.int _ n))) => some (.v 0 (.d (.int k (k.wrap n))), [], orc)
  | _, _, _ => none
 | .fieldAddr t x f => match tab T t, opd env x with
  | some ⟨_, _, _, .struct fs⟩, some it => match fs[f]? with
   | some (off, _, s) => if Nat.beq s 0 then none else match it with
    | .v 0 (.ptr o b) => some (.v 0 (.ptr o (b + off)), [], orc)
    | .pi o b => some (.pi o (b + off), [], orc)
    | .fa cs => some (.fa (cs.drop off), [], orc)
    | .be p s i o => some (.be p s i (o + off), [], orc)
    | _ => none
   | none => none
  | _, _ => none
 | .load t a => evLoad T env objs t a orc
 | .indexAddr t x i => evIdx T env objs t x i orc
 | .slice t x lo hi mx => evSlice T env objs t x lo hi mx orc
 | .nilCheck x => match opd env x with
  | some (.v 0 (.ptr o b)) => some (.v 0 (.ptr o b), [], orc)
  | some (.pi o b) => some (.pi o b, [], orc)
  | _ => none
 | .index t x i => match tab T t, opd env x, opd env i with
  | some ⟨_, _, _, .str⟩, some (.v 0 (.d (.str s))), some (.v 0 (.d (.int _ n))) => some (.v 0 (.d (.int .u8 (strAt s n))), [0 ≤ n, n < s.size], orc)
  | _, _, _ => none
 | .field t x f => match tab T t, opd env x with
  | some ⟨_, _, _, .struct fs⟩, some (.v 0 (.agg cs)) => match fs[f]? with
   | some (off, ty, s) => match tab T ty with
    | some ti => if Nat.beq ti.size s then
      if ti.k.isAgg then (if Nat.beq ((cs.drop off).take s).length s then some (.v 0 (.agg ((cs.drop off).take s)), [], orc) else none)
      else match cs[off]? with
       | some c => some (.v 0 (.d c), [], orc)
       | none => none
     else none
    | none => none
   | none => none
  | _, _ => none
 | .extract x i => match opd env x with
  | some (.tup ps) => if (It.tup ps).free then match ps[i]? with
    | some (0, p) => some (.v 0 p, [], orc)
    | _ => none
   else none
  | _ => none
 | .makeFunc (.func f) first cap => if Nat.beq first.size 0 then match cap.toList.mapM (fun x => match opd env x with | some (.v 0 p) => some p | _ => none) with
   | some ps => some (.v 0 (.fn f ps), [], orc)
   | none => none
  else none
 | .call { callee := .builtin .len, args, argTypes } => match args.toList, argTypes.toList with
  | [x], [t] => evLen T env objs t x orc
  | _, _ => none
 | .call { callee := .builtin .min, args, argTypes := _ } => match evMinMax mnI (args.toList.map (opd env)) with
  | some (k, n) => some (.v 0 (.d (.int k n)), [], orc)
  | none => none
 | .call { callee := .builtin .max, args, argTypes := _ } => match evMinMax mxI (args.toList.map (opd env)) with
  | some (k, n) => some (.v 0 (.d (.int k n)), [], orc)
  | none => none
 | _ => none


def Told (w : World) (ow : Nat → Lab) (φ : Nat → Nat) (n : Nat) (ts : Array Value) (it : It) (v : Value) : Prop :=
 (RV w ow φ n ts .free it v ∧ it.free = true) ∨ ∃ s xs a, it = .ap s xs ∧ v = .slice a xs.length xs.length ∧ RD w (Fz ow) 0 (.sl s xs) (.slice a xs.length xs.length) []
theorem Told.rv {w : World} {ow : Nat → Lab} {φ : Nat → Nat} {n : Nat} {ts : Array Value} {it : It} {v : Value} (h : Told w ow φ n ts it v) (l : Lab) : RV w ow φ n ts l it v := by
 rcases h with ⟨h, hf⟩ | ⟨s, xs, a, rfl, hv, hr⟩
 ·exact RV.lab hf h
 ·exact .inr ⟨a, hv, hr⟩
theorem Told.op {N : Nat} {w : World} {ow : Nat → Lab} {φ : Nat → Nat} {ts : Array Value} {st : St} (h : Rel N w ow φ ts st) {x : Operand} {it : It} (hx : opd st.env x = some it) (hf : it.free = true) :
  Told w ow φ st.objs.length ts it (evalT ts x) := .inl ⟨RV.lab hf (opd_rel h hx), hf⟩
theorem intOf_run {N : Nat} {w : World} {ow : Nat → Lab} {φ : Nat → Nat} {ts : Array Value} {st : St} (h : Rel N w ow φ ts st) {x : Operand} {k : IntKind} {n : Int} (hx : intOf? (opd st.env x) = some (k, n)) : evalT ts x = .int k n := by
 unfold intOf? at hx
 split at hx
 ·rename_i k' n' ho
  cases hx
  obtain ⟨B, hr, _, _⟩ := opd_rel h ho
  simp only [RP, RD] at hr
  exact hr.1
 ·cases hx
theorem evMin_run {P : Program} {N : Nat} {w : World} {ow : Nat → Lab} {φ : Nat → Nat} {ts : Array Value} {st : St} (h : Rel N w ow φ ts st) {args : List Operand} {k : IntKind} {n : Int}
  (he : evMinMax mnI (args.map (opd st.env)) = some (k, n)) {a : Array Nat} {t : Nat} : (Builtin.min_ a t (args.map (evalT ts)).toArray).run P w = .ok (.int k n) w := by
 unfold evMinMax at he
 split at he
 ·rename_i x hx
  match args, hx with
  | [o], hx =>
   simp only [List.map_cons, List.map_nil, List.cons.injEq, and_true] at hx
   subst hx
   simp [Builtin.min_, intOf_run h he]
 ·rename_i x y hx
  match args, hx with
  | [o, o'], hx =>
   simp only [List.map_cons, List.map_nil, List.cons.injEq, and_true] at hx
   obtain ⟨rfl, rfl⟩ := hx
   split at he
   ·rename_i k1 a1 k2 b1 h1 h2
    cases he
    simp [Builtin.min_, intOf_run h h1, intOf_run h h2, Builtin.min2, mnI]
   ·cases he
 ·rename_i x y z hx
  match args, hx with
  | [o, o', o''], hx =>
   simp only [List.map_cons, List.map_nil, List.cons.injEq, and_true] at hx
   obtain ⟨rfl, rfl, rfl⟩ := hx
   split at he
   ·rename_i k1 a1 k2 b1 k3 c1 h1 h2 h3
    cases he
    simp [Builtin.min_, intOf_run h h1, intOf_run h h2, intOf_run h h3, Builtin.min2, mnI]
    try rfl
   ·cases he
 ·cases he
theorem evMax_run {P : Program} {N : Nat} {w : World} {ow : Nat → Lab} {φ : Nat → Nat} {ts : Array Value} {st : St} (h : Rel N w ow φ ts st) {args : List Operand} {k : IntKind} {n : Int}
  (he : evMinMax mxI (args.map (opd st.env)) = some (k, n)) {a : Array Nat} {t : Nat} : (Builtin.max_ a t (args.map (evalT ts)).toArray).run P w = .ok (.int k n) w := by
 unfold evMinMax at he
 split at he
 ·rename_i x hx
  match args, hx with
  | [o], hx =>
   simp only [List.map_cons, List.map_nil, List.cons.injEq, and_true] at hx
   subst hx
   simp [Builtin.max_, intOf_run h he]
 ·rename_i x y hx
  match args, hx with
  | [o, o'], hx =>
   simp only [List.map_cons, List.map_nil, List.cons.injEq, and_true] at hx
   obtain ⟨rfl, rfl⟩ := hx
   split at he
   ·rename_i k1 a1 k2 b1 h1 h2
    cases he
    simp [Builtin.max_, intOf_run h h1, intOf_run h h2, Builtin.max2, mxI]
   ·cases he
 ·rename_i x y z hx
  match args, hx with
  | [o, o', o''], hx =>
   simp only [List.map_cons, List.map_nil, List.cons.injEq, and_true] at hx
   obtain ⟨rfl, rfl, rfl⟩ := hx
   split at he
   ·rename_i k1 a1 k2 b1 k3 c1 h1 h2 h3
    cases he
    simp [Builtin.max_, intOf_run h h1, intOf_run h h2, intOf_run h h3, Builtin.max2, mxI]
    try rfl
   ·cases he
 ·cases he
theorem RTup.get {w : World} {ow : Nat → Lab} {φ : Nat → Nat} {n : Nat} : ∀ {ps : List (Nat × PV)} {vs : List Value} {B : List Nat} {i : Nat} {m : Nat} {p : PV}, RTup w ow φ n ps vs B → ps[i]? = some (m, p) →
  ∃ v B1, vs[i]? = some v ∧ RP w (Fz ow) φ n m p v B1 ∧ ∀ b ∈ B1, b ∈ B
 | [], vs, B, i, m, p, h, hi => by simp at hi
 | (m', p') :: ps, vs, B, 0, m, p, h, hi => by
  obtain ⟨v, vs', B1, B2, rfl, rfl, h1, h2⟩ := h
  simp at hi
  obtain ⟨rfl, rfl⟩ := hi
  exact ⟨v, B1, by simp, h1, fun b hb => by simp [hb]⟩
 | (m', p') :: ps, vs, B, i + 1, m, p, h, hi => by
  obtain ⟨v, vs', B1, B2, rfl, rfl, h1, h2⟩ := h
  obtain ⟨u, B3, h3, h4, h5⟩ := RTup.get h2 (by simpa using hi)
  exact ⟨u, B3, by simpa using h3, h4, fun b hb => by simp [h5 b hb]⟩
section
variable {P : Program} {T : Tab} {N : Nat} {w : World} {ow : Nat → Lab} {φ : Nat → Nat} {ts : Array Value} {st : St}
theorem run_field {t ty off s f : Nat} {it ti : TI} {fs : List (Nat × Nat × Nat)} (ht : tiOf P t = some it) (hk : it.k = .struct fs) (hf : fs[f]? = some (off, ty, s)) (hty : tiOf P ty = some ti) {cs : Array Value} {v : Value}
  (hp : (part ty cs off).run P w = .ok v w) : (Instr.field t (.agg cs) f).run P w = .ok v w := by
 obtain ⟨inf, d, i1, i2, i3, i4, i5⟩ := tiOf_spec ht
 rw [hk] at i5
 obtain ⟨g, rfl, rfl⟩ := tk_struct i5
 simp only [List.getElem?_map, Option.map_eq_some_iff] at hf
 obtain ⟨fl, h1, h2⟩ := hf
 obtain ⟨rfl, rfl, rfl⟩ := Prod.mk.inj h2 |>.imp id (fun h => Prod.mk.inj h)
 have h1' : g[f]? = some fl := by rw [← Array.getElem?_toList]; exact h1
 simp [Instr.field, run_und i2, h1', asAgg, hp]
theorem caps_rel (h : Rel N w ow φ ts st) : ∀ (l : List Operand) {ps : List PV}, l.mapM (fun x => match opd st.env x with | some (.v 0 p) => some p | _ => none) = some ps → RPs w (Fz ow) φ st.objs.length ps (l.map (evalT ts))
 | [], ps, hp => by simp at hp; subst hp; simp [RPs]
 | x :: l, ps, hp => by
  rw [List.mapM_cons] at hp
  obtain ⟨p, h1, hp⟩ := Option.bind_eq_some_iff.1 hp
  obtain ⟨ps', h2, hp⟩ := Option.bind_eq_some_iff.1 hp
  simp at hp; subst hp
  split at h1
  ·rename_i p' hx
   cases h1
   obtain ⟨B, hr, _, _⟩ := opd_rel h hx
   obtain rfl := RP.zeroB hr
   simp only [List.map_cons, RPs]
   exact ⟨_, _, rfl, hr, caps_rel h l h2⟩
  ·cases h1
theorem execOp_val {o : Oper} {s : Sem Value} {v : Value} (he : execOp (evalT ts) o = (do pure (.value (← s)) : Sem Next)) (hs : s.run P w = .ok v w) :
  (execOp (evalT ts) o).run P w = .ok (.value v) w := by
 rw [he]; simp [hs]
theorem evPure_sound (hT : TOK P T) (h : Rel N w ow φ ts st) {o : Oper} {orc orc' : List Orc} {it : It} {obs : List Prop}
  (he : evPure T st.env st.objs o.op orc = some (it, obs, orc')) (ho : AllP obs) :
  ∃ v, (execOp (evalT ts) o).run P w = .ok (.value v) w ∧ Told w ow φ st.objs.length ts it v := by
 unfold evPure at he
 split at he
 ·-- move
  rename_i x hop
  have hrun : (execOp (evalT ts) o).run P w = .ok (.value (evalT ts x)) w := by simp [execOp, hop]
  split at he
  ·rename_i m s xs t hx
   cases he
   obtain ⟨v, hv, hr⟩ := h.env _ _ (look_mem hx)
   rw [evalT_get hv] at hrun
   exact ⟨v, hrun, .inl ⟨hv, rfl⟩⟩
  ·rename_i s xs t hx
   cases he
   obtain ⟨v, hv, hr⟩ := h.env _ _ (look_mem hx)
   rw [evalT_get hv] at hrun
   exact ⟨v, hrun, .inl ⟨hv, rfl⟩⟩
  ·split at he
   ·rename_i hf
    cases he
    exact ⟨_, hrun, Told.op h (by assumption) hf⟩
   ·cases he
  ·cases he
 ·-- assign
  rename_i x hop
  have hrun : (execOp (evalT ts) o).run P w = .ok (.value (evalT ts x)) w := by simp [execOp, hop]
  split at he
  ·cases he
  ·cases he
  ·split at he
   ·rename_i hf
    cases he
    exact ⟨_, hrun, Told.op h (by assumption) hf⟩
   ·cases he
  ·cases he
 ·-- pick
  rename_i c a b hop
  split at he
  ·rename_i hc
   have hcv : evalT ts c = .bool true := opd_rel h hc
   split at he
   ·split at he
    ·rename_i it' hx hf
     cases he
     exact ⟨evalT ts a, by simp [execOp, hop, hcv, asBool], Told.op h hx hf⟩
    ·cases he
   ·cases he
  ·rename_i hc
   have hcv : evalT ts c = .bool false := opd_rel h hc
   split at he
   ·split at he
    ·rename_i it' hx hf
     cases he
     exact ⟨evalT ts b, by simp [execOp, hop, hcv, asBool], Told.op h hx hf⟩
    ·cases he
   ·cases he
  ·cases he
 ·-- binOp
  rename_i op t x y t' hop
  split at he
  ·rename_i a b hx hy
   split at he
   ·rename_i p obs' hb
    cases he
    obtain ⟨Ba, ha, _, _⟩ := opd_rel h hx
    obtain ⟨Bb, hb', _, _⟩ := opd_rel h hy
    obtain rfl := RP.zeroB ha
    obtain rfl := RP.zeroB hb'
    obtain ⟨v, hv, hp⟩ := evBin_run (P := P) (t := t) (ox := x) (oy := y) hb ho ha hb'
    exact ⟨v, execOp_val (by simp [execOp, hop]) hv, .inl ⟨own0 hp, rfl⟩⟩
   ·cases he
  ·cases he
 ·-- unOp
  rename_i op t x hop
  split at he
  ·rename_i b hx
   cases he
   obtain ⟨B, hr, _, _⟩ := opd_rel h hx
   simp only [RP, RD] at hr
   exact ⟨.bool (!b), by simp [execOp, hop, hr.1, Op.unary], .inl ⟨bool0 _, rfl⟩⟩
  ·rename_i b hx
   cases he
   have hr : evalT ts x = .bool b := opd_rel h hx
   exact ⟨.bool (!b), by simp [execOp, hop, hr, Op.unary], .inl ⟨rfl, rfl⟩⟩
  ·rename_i k n hx
   cases he
   obtain ⟨B, hr, _, _⟩ := opd_rel h hx
   simp only [RP, RD] at hr
   exact ⟨.int k (k.wrap (0 - n)), by simp [execOp, hop, hr.1, Op.unary, Op.intArith], .inl ⟨int0 _ _, rfl⟩⟩
  ·rename_i k n hx
   cases he
   obtain ⟨B, hr, _, _⟩ := opd_rel h hx
   simp only [RP, RD] at hr
   exact ⟨.int k (bitsI .xor k (if k.signed then -1 else k.max) n), by simp [execOp, hop, hr.1, Op.unary, Op.intBits, bitsI], .inl ⟨int0 _ _, rfl⟩⟩
  ·cases he
 ·-- convert
  rename_i src dst x hop
  split at he
  ·rename_i ti sz bz zz k k' n hs ht hx
   cases he
   obtain ⟨B, hr, _, _⟩ := opd_rel h hx
   simp only [RP, RD] at hr
   obtain ⟨inf, d, i1, i2, i3, i4, i5⟩ := tiOf_spec (hT _ _ ht)
   obtain ⟨inf', d', j1, j2, j3, j4, j5⟩ := tiOf_spec (hT _ _ hs)
   obtain rfl := tk_int i5
   exact ⟨.int k (k.wrap n), by simp [execOp, hop, hr.1, convert, run_und i2, run_und j2, Conv.intToInt], .inl ⟨int0 _ _, rfl⟩⟩
  ·cases he
 ·-- fieldAddr
  rename_i t x f hop
  split at he
  ·rename_i sz bz zz fs it' ht hx
   split at he
   ·rename_i off ty s hf
    split at he
    ·cases he
    ·rename_i hs
     have hs : s ≠ 0 := fun e => hs (by rw [e]; rfl)
     have hrv := opd_rel h hx
     split at he
     ·rename_i o b
      cases he
      obtain ⟨B, hr, _, _⟩ := hrv
      simp only [RP] at hr
      exact ⟨_, execOp_val (s := Instr.fieldAt t (evalT ts x) f) (by simp [execOp, hop]) (by rw [hr.1]; exact run_fieldAt (hT _ _ ht) rfl hf hs), .inl ⟨own0 (by simp only [RP]; exact ⟨trivial, hr.2.1, trivial⟩), rfl⟩⟩
     ·rename_i o b
      cases he
      exact ⟨_, execOp_val (s := Instr.fieldAt t (evalT ts x) f) (by simp [execOp, hop]) (by rw [hrv.1]; exact run_fieldAt (hT _ _ ht) rfl hf hs), .inl ⟨⟨rfl, hrv.2⟩, rfl⟩⟩
     ·rename_i cs
      cases he
      obtain ⟨b, o, hv, hz, hr⟩ := hrv
      exact ⟨_, execOp_val (s := Instr.fieldAt t (evalT ts x) f) (by simp [execOp, hop]) (by rw [hv]; exact run_fieldAt (hT _ _ ht) rfl hf hs), .inl ⟨⟨b, _, rfl, hz, RC.drop _ _ _ _ hr⟩, rfl⟩⟩
     ·rename_i p s' i o
      cases he
      obtain ⟨a, len, cap, hd, hsp, hv⟩ := hrv
      exact ⟨_, execOp_val (s := Instr.fieldAt t (evalT ts x) f) (by simp [execOp, hop]) (by rw [hv]; exact run_fieldAt (hT _ _ ht) rfl hf hs), .inl ⟨⟨a, len, cap, hd, hsp, by simp only [Nat.add_assoc]⟩, rfl⟩⟩
     ·cases he
   ·cases he
  ·cases he
 ·-- load
  rename_i t a hop
  obtain ⟨v, hv, hr, hf⟩ := evLoad_sound hT h he ho
  exact ⟨v, execOp_val (by simp [execOp, hop]) hv, .inl ⟨hr, hf⟩⟩
 ·-- indexAddr
  rename_i t x i hop
  obtain ⟨v, hv, hr, hf⟩ := evIdx_sound hT h he ho
  exact ⟨v, execOp_val (by simp [execOp, hop]) hv, .inl ⟨hr, hf⟩⟩
 ·-- slice
  rename_i t x lo hi mx hop
  obtain ⟨v, hv, hr⟩ := evSlice_sound hT h he ho
  exact ⟨v, execOp_val (by simp [execOp, hop]) hv, hr⟩
 ·-- nilCheck
  rename_i x hop
  split at he
  ·rename_i o b hx
   cases he
   obtain ⟨B, hr, _, _⟩ := opd_rel h hx
   simp only [RP] at hr
   exact ⟨.pointer (some ⟨φ o, b, none⟩), by simp [execOp, hop, hr.1], .inl ⟨own0 (by simp only [RP]; exact ⟨trivial, hr.2.1, trivial⟩), rfl⟩⟩
  ·rename_i o b hx
   cases he
   have hrv := opd_rel h hx
   exact ⟨_, by simp [execOp, hop, hrv.1], .inl ⟨⟨rfl, hrv.2⟩, rfl⟩⟩
  ·cases he
 ·-- index
  rename_i t x i hop
  split at he
  ·rename_i sz bz zz s k n ht hx hi
   cases he
   obtain ⟨h0, h1, _⟩ := ho
   obtain ⟨B, hr, _, _⟩ := opd_rel h hx
   obtain ⟨B', hr', _, _⟩ := opd_rel h hi
   simp only [RP, RD] at hr hr'
   obtain ⟨inf, d, i1, i2, i3, i4, i5⟩ := tiOf_spec (hT _ _ ht)
   obtain rfl := tk_str i5
   have hlt : n.toNat < s.size := by omega
   refine ⟨.int .u8 (strAt s n), execOp_val (s := Instr.index t (evalT ts x) (evalT ts i)) (by simp [execOp, hop]) ?_, .inl ⟨int0 _ _, rfl⟩⟩
   rw [hr.1, hr'.1]
   have hd : s.data[n.toNat]? = some (s.data[n.toNat]'hlt) := by simp [hlt]
   have hg : s[n.toNat]? = some (s.data[n.toNat]'hlt) := by
    rw [getElem?_pos s n.toNat hlt]; rfl
   simp [Instr.index, asIntOf, run_und i2, h0, hg, strAt, hd]
  ·cases he
 ·-- field
  rename_i t x f hop
  split at he
  ·rename_i sz bz zz fs cs ht hx
   split at he
   ·rename_i off ty s hf
    split at he
    ·rename_i ti hty
     split at he
     ·rename_i hs
      have hs : ti.size = s := Nat.eq_of_beq_eq_true hs
      obtain ⟨B, hr, _, _⟩ := opd_rel h hx
      simp only [RP] at hr
      obtain ⟨vs, hv, hl, hr⟩ := hr
      obtain rfl := RC.zeroB _ _ _ hr
      split at he
      ·rename_i hagg
       split at he
       ·rename_i hl2
        have hl2 : ((cs.drop off).take s).length = s := Nat.eq_of_beq_eq_true hl2
        cases he
        obtain ⟨us, hul, hug, hur⟩ := RC.vals (RC.take _ _ _ s (RC.drop _ _ _ off hr))
        have hus : us.length = s := hul.trans hl2
        have hext : (vs.extract off (off + s)).toList = us := by
         apply List.ext_getElem?
         intro j
         rw [Array.toList_extract, List.extract_eq_take_drop, List.getElem?_take, List.getElem?_drop]
         have e1 : off + s - off = s := by omega
         rw [e1]
         by_cases hj : j < s
         ·rw [if_pos hj]
          obtain ⟨u, hu⟩ : ∃ u, us[j]? = some u := ⟨us[j]'(by omega), by simp [hus, hj]⟩
          rw [hu]
          have := hug j u hu
          simp only [Nat.zero_add] at this
          rw [Array.getElem?_toList]; exact this
         ·rw [if_neg hj, List.getElem?_eq_none (by omega)]
        have hext' : vs.extract off (off + s) = us.toArray := by rw [← hext]
        obtain ⟨inf, d, j1, j2, j3, j4, j5⟩ := tiOf_spec (hT _ _ hty)
        refine ⟨.agg us.toArray, execOp_val (s := Instr.field t (evalT ts x) f) (by simp [execOp, hop]) (by rw [hv]; exact run_field (hT _ _ ht) rfl hf (hT _ _ hty) (by simp [part, run_isAgg (hT _ _ hty), hagg, run_size j1, j3, hs, hext'])), .inl ⟨own0 ?_, rfl⟩⟩
        simp only [RP]
        exact ⟨us.toArray, rfl, by simpa using hul, hur _ 0 (fun j v hj => by simpa using hj)⟩
       ·cases he
      ·rename_i hagg
       have hagg : ti.k.isAgg = false := by simpa using hagg
       split at he
       ·rename_i c hc
        cases he
        obtain ⟨v, C0, C1, C2, hu, hCe, hrd⟩ := RC.get _ _ _ _ _ _ hr hc
        obtain rfl := RD.zeroB hrd
        simp only [Nat.zero_add] at hu
        refine ⟨v, execOp_val (s := Instr.field t (evalT ts x) f) (by simp [execOp, hop]) (by rw [hv]; exact run_field (hT _ _ ht) rfl hf (hT _ _ hty) (by simp [part, run_isAgg (hT _ _ hty), hagg, hu])), .inl ⟨own0 (by simpa only [RP] using hrd), rfl⟩⟩
       ·cases he
     ·cases he
    ·cases he
   ·cases he
  ·cases he
 ·-- extract
  rename_i x i hop
  split at he
  ·rename_i ps hx
   split at he
   ·rename_i hf
    split at he
    ·rename_i p hp
     cases he
     obtain ⟨vs, B, hv, hr, _, _⟩ := opd_rel h hx
     obtain ⟨v, B1, h1, h2, _⟩ := RTup.get hr hp
     obtain rfl := RP.zeroB h2
     refine ⟨v, execOp_val (s := Instr.extract (evalT ts x) i) (by simp [execOp, hop]) ?_, .inl ⟨own0 h2, rfl⟩⟩
     rw [hv]
     have : vs[i]? = some v := by rw [← Array.getElem?_toList]; exact h1
     simp [Instr.extract, this]
    ·cases he
   ·cases he
  ·cases he
 ·-- makeFunc
  rename_i f first cap hop
  split at he
  ·rename_i hz
   have hz : first.size = 0 := Nat.eq_of_beq_eq_true hz
   split at he
   ·rename_i ps hps
    cases he
    refine ⟨.func (.func f) #[] (cap.map (evalT ts)), execOp_val (s := Instr.makeFunc (.func f) (first.map (evalT ts)) (cap.map (evalT ts))) (by simp [execOp, hop]) ?_, .inl ⟨own0 ?_, rfl⟩⟩
    ·have : first.map (evalT ts) = #[] := by
      have : first = #[] := Array.eq_empty_of_size_eq_zero hz
      subst this; simp
     simp [Instr.makeFunc, this]
    ·simp only [RP]
     refine ⟨cap.toList.map (evalT ts), by rw [← Array.toList_map], trivial, ?_⟩
     exact caps_rel h cap.toList hps
   ·cases he
  ·cases he
 ·-- len
  rename_i args argTypes hop
  split at he
  ·rename_i x t h1 h2
   obtain ⟨v, hv, hr, hf⟩ := evLen_sound (P := P) hT h (ty := o.type) he ho
   have e1 : args = #[x] := by rw [← Array.toArray_toList (xs := args), h1]
   have e2 : argTypes = #[t] := by rw [← Array.toArray_toList (xs := argTypes), h2]
   exact ⟨v, by simp [execOp, hop, e1, e2, resolve, invoke, builtin, hv], .inl ⟨hr, hf⟩⟩
  ·cases he
 ·-- min
  rename_i args argTypes hop
  split at he
  ·rename_i k n hm
   cases he
   have := evMin_run (P := P) h hm (a := argTypes) (t := o.type)
   refine ⟨.int k n, ?_, .inl ⟨int0 _ _, rfl⟩⟩
   have e : args.map (evalT ts) = (args.toList.map (evalT ts)).toArray := by rw [← Array.toList_map]
   simp only [execOp, hop, resolve, Sem.run_bind, Sem.run_pure, Result.andThen_ok, invoke, builtin, e, this]
  ·cases he
 ·rename_i args argTypes hop
  split at he
  ·rename_i k n hm
   cases he
   have := evMax_run (P := P) h hm (a := argTypes) (t := o.type)
   refine ⟨.int k n, ?_, .inl ⟨int0 _ _, rfl⟩⟩
   have e : args.map (evalT ts) = (args.toList.map (evalT ts)).toArray := by rw [← Array.toList_map]
   simp only [execOp, hop, resolve, Sem.run_bind, Sem.run_pure, Result.andThen_ok, invoke, builtin, e, this]
  ·cases he
 ·cases he
end

end Go.Ev
