/- The engine's part EvR: what a function's code does, told of values; no program in sight. Conditions: none. -/
import Derived.Test.YtahajbmidocihaaEvQ
import Derived.KernelRfl
import Derived.ChangeSlices
set_option linter.unusedVariables false
set_option linter.unusedSimpArgs false
namespace Go.Ev

/-! What the printed texts use. -/
def bodyOf (f : Func) : Code := f.body.getD .skip

def nav : List Item → List Nat → List Item
  | t, [] => t
  | .code (.seq x y) :: k, 0 :: r => nav (.code x :: .code y :: k) r
  | .code (.seq _ y) :: k, 1 :: r => nav (.code y :: k) r
  | .code (.cond _ x _) :: k, 0 :: r => nav (.code x :: k) r
  | .code (.cond _ _ y) :: k, 1 :: r => nav (.code y :: k) r
  | .code (.block id c) :: k, 0 :: r => nav (.code c :: .inBlock id :: k) r
  | .code (.loop c) :: k, 0 :: r => nav (.code c :: .inLoop c :: k) r
  | _ :: k, _ :: r => nav k r
  | [], _ => []

/-! How elements are told: one function for each type. -/
def EI (k : IntKind) (n : Int) : List D := [.int k n]
def EB (b : Bool) : List D := [.bool b]
def ES (s : ByteArray) : List D := [.str s]
def EL {α : Type} (s : Nat) (e : α → List D) (xs : List α) : List D := [.sl s (xs.map e)]

/-! What the functions' answers are made of. -/
def at? {α : Type} (xs : List α) (i : Int) : Option α := if 0 ≤ i then xs[i.toNat]? else none
def req {α : Type} (p : Prop) [Decidable p] (k : Option α) : Option α := if p then k else none
def br {α : Type} (b : Bool) (x y : Option α) : Option α := match b with
  | true => x
  | false => y
def bnd {α β : Type} (o : Option α) (k : α → Option β) : Option β := o.bind k

theorem at_nn {α : Type} {xs : List α} {i : Int} {x : α} (h : at? xs i = some x) : 0 ≤ i := by
  unfold at? at h; split at h
  · assumption
  · cases h
theorem at_get {α : Type} {xs : List α} {i : Int} {x : α} (h : at? xs i = some x) : xs[i.toNat]? = some x := by
  unfold at? at h; split at h
  · exact h
  · cases h
theorem at_map {α : Type} {xs : List α} {i : Int} {x : α} (e : α → List D) (h : at? xs i = some x) : (xs.map e)[i.toNat]? = some (e x) := by
  rw [List.getElem?_map, at_get h]; rfl
theorem at_lt {α : Type} {xs : List α} {i : Int} {x : α} (e : α → List D) (h : at? xs i = some x) : i < ((xs.map e).length : Nat) := by
  have := lt_of_get (at_get h)
  have := at_nn h
  simp; omega
theorem req_some {α : Type} {p : Prop} [Decidable p] {k : Option α} {r : α} (h : req p k = some r) : p ∧ k = some r := by
  unfold req at h; split at h
  · exact ⟨by assumption, h⟩
  · cases h
theorem br_some {α : Type} {b : Bool} {x y : Option α} {r : α} (h : br b x y = some r) : (b = true ∧ x = some r) ∨ (b = false ∧ y = some r) := by
  cases b
  · exact .inr ⟨rfl, h⟩
  · exact .inl ⟨rfl, h⟩
theorem bnd_some {α β : Type} {o : Option α} {k : α → Option β} {r : β} (h : bnd o k = some r) : ∃ x, o = some x ∧ k x = some r := by
  unfold bnd at h
  cases o with
  | none => cases h
  | some x => exact ⟨x, rfl, h⟩

/-! Cuts. -/
def cut {α : Type} (xs : List α) (lo hi : Option Int) : List α :=
  match lo, hi with
  | none, none => xs
  | none, some b => xs.take b.toNat
  | some a, none => xs.drop a.toNat
  | some a, some b => (xs.take b.toNat).drop a.toNat
theorem cutL_map {α : Type} (e : α → List D) (xs : List α) (lo hi : Option Int) : cutL (xs.map e) lo hi = (cut xs lo hi).map e := by
  cases lo <;> cases hi <;> simp [cutL, cut, List.map_take, List.map_drop]
/-- What a cut asks. -/
def cutOk (n : Nat) (lo hi : Option Int) : Prop :=
  match lo, hi with
  | none, none => True
  | none, some b => 0 ≤ b ∧ b ≤ n
  | some a, none => 0 ≤ a ∧ a ≤ n
  | some a, some b => 0 ≤ a ∧ a ≤ b ∧ b ≤ n
instance (n : Nat) (lo hi : Option Int) : Decidable (cutOk n lo hi) := by unfold cutOk; split <;> infer_instance

/-- What an append asks of the sizes. -/
def fits (n by' : Nat) : Prop := n ≤ 9223372036854775807 ∧ n * by' ≤ 140737488355328
instance (n m : Nat) : Decidable (fits n m) := by unfold fits; infer_instance
theorem fits1 {α β : Type} {xs : List α} {ys : List β} {m : Nat} {e : α → List D} {e' : β → List D} (h : fits (xs.length + ys.length) m) : (xs.map e).length + (ys.map e').length ≤ 9223372036854775807 := by simpa using h.1
theorem fits2 {α β : Type} {xs : List α} {ys : List β} {m : Nat} {e : α → List D} {e' : β → List D} (h : fits (xs.length + ys.length) m) : ((xs.map e).length + (ys.map e').length) * m ≤ 140737488355328 := by simpa using h.2

theorem set_map {α : Type} (e : α → List D) (xs : List α) (i : Nat) (v : α) : (xs.map e).set i (e v) = (xs.set i v).map e := by rw [List.map_set]
theorem app_map {α : Type} (e : α → List D) (xs ys : List α) : xs.map e ++ ys.map e = (xs ++ ys).map e := by simp

theorem len_eq {α : Type} (e : α → List D) (xs : List α) : (It.v 0 (.d (.int .i64 ((xs.map e).length : Nat)))) = .v 0 (.d (.int .i64 ((xs.length : Nat) : Int))) := by rw [List.length_map]
theorem cut_full {α : Type} (e : α → List D) (xs : List α) : cutL (xs.map e) none (some ((xs.length : Nat) : Int)) = xs.map e := by simp [cutL, ← List.map_take]
theorem cut_f0 {n : Nat} : 0 ≤ (n : Int) := Int.natCast_nonneg n
theorem cut_f1 {α : Type} (e : α → List D) (xs : List α) : ((xs.length : Nat) : Int) ≤ ((xs.map e).length : Nat) := by simp
theorem cut_b0 {n : Nat} {b : Int} (h : cutOk n none (some b)) : 0 ≤ b := h.1
theorem cut_b1 {α : Type} {xs : List α} (e : α → List D) {b : Int} (h : cutOk xs.length none (some b)) : b ≤ ((xs.map e).length : Nat) := by rw [List.length_map]; exact h.2
theorem cut_a0 {n : Nat} {b : Int} (h : cutOk n (some b) none) : 0 ≤ b := h.1
theorem cut_a1 {α : Type} {xs : List α} (e : α → List D) {b : Int} (h : cutOk xs.length (some b) none) : b ≤ ((xs.map e).length : Nat) := by rw [List.length_map]; exact h.2
theorem cut_c0 {n : Nat} {a b : Int} (h : cutOk n (some a) (some b)) : 0 ≤ a := h.1
theorem cut_c1 {n : Nat} {a b : Int} (h : cutOk n (some a) (some b)) : a ≤ b := h.2.1
theorem cut_c2 {α : Type} {xs : List α} (e : α → List D) {a b : Int} (h : cutOk xs.length (some a) (some b)) : b ≤ ((xs.map e).length : Nat) := by rw [List.length_map]; exact h.2.2

/-- What a step of a drawn region leaves. -/
def DE (st : St) (its : List (Option (Nat × It))) (i : Nat) : Prop := ({ st with env := ent its i ++ st.env } : St) = { st with env := ent its i ++ st.env }

def alt {α β γ : Type} (o : α ⊕ β) (f : α → Option γ) (g : β → Option γ) : Option γ := match o with
  | .inl x => f x
  | .inr y => g y
theorem alt_some {α β γ : Type} {o : α ⊕ β} {f : α → Option γ} {g : β → Option γ} {r : γ} (h : alt o f g = some r) : (∃ x, o = .inl x ∧ f x = some r) ∨ (∃ y, o = .inr y ∧ g y = some r) := by
  cases o with
  | inl x => exact .inl ⟨x, rfl, h⟩
  | inr y => exact .inr ⟨y, rfl, h⟩

/-! Obligations. -/
theorem AN : AllP [] := trivial
theorem AC {p : Prop} {ps : List Prop} (h : p) (h' : AllP ps) : AllP (p :: ps) := ⟨h, h'⟩

section
variable {P : Program} {N : Nat}
theorem Reach.trans {todo todo1 : List Item} {st st1 : St} {out : Out} (h : Reach P N todo st (.at todo1 st1)) (h' : Reach P N todo1 st1 out) : Reach P N todo st out := by
  intro w ow φ ts hr g
  obtain ⟨w1, ow1, φ1, ts1, k1, r1, m1, p1, n1, t1, s1⟩ := h w ow φ ts hr g
  have t1 : k1 = todo1 := t1
  subst t1
  obtain ⟨w2, ow2, φ2, ts2, k2, r2, m2, p2, n2, t2, s2⟩ := h' w1 ow1 φ1 ts1 r1 g
  exact ⟨w2, ow2, φ2, ts2, k2, r2, m1.trans m2, fun i hi => by rw [p2 i (Nat.lt_of_lt_of_le hi n1), p1 i hi], Nat.le_trans n1 n2, t2, fun b hb cs => (s1 b hb cs).trans (s2 b hb cs)⟩
theorem Reach.nilSplit {todo : List Item} {st : St} {out : Out} {t s : Nat} {xs : List (List D)} (hl : look st.env t = some (.v 0 (.d (.sl s xs)))) (h1 : xs = [] → Reach P N todo { st with env := putE st.env t .nils } out)
    (h2 : Reach P N todo { st with env := putE st.env t (.nn s xs) } out) : Reach P N todo st out := by
  intro w ow φ ts hr g
  obtain ⟨v, hv, B, hp, _, _⟩ := hr.env _ _ (look_mem hl)
  obtain rfl := RP.zeroB hp
  simp only [RP] at hp
  have hp0 := hp
  simp only [RD] at hp
  obtain ⟨_, _, a, cap, hve, _, _, hn, hx⟩ := hp
  cases a with
  | none =>
    have hxs : xs = [] := by
      by_cases e : xs = []
      · exact e
      · obtain ⟨p, hp, _⟩ := hx e; cases hp
    have hc := hn rfl
    subst hxs; subst hc
    exact h1 rfl w ow φ ts (putE_rel hr ⟨v, hv, (by simpa using hve : v = .slice none 0 0)⟩) g
  | some a => exact h2 w ow φ ts (putE_rel hr ⟨v, hv, hp0, a, _, _, hve⟩) g
theorem Reach.retold {todo : List Item} {st st1 st2 : St} {obs : List Prop} {orc : List Orc} (h1 : Reach P N todo st (.ret st1)) (h : evConvs st1 orc = some (st2, obs)) (ho : AllP obs) : Reach P N todo st (.ret st2) := by
  intro w ow φ ts hr g
  obtain ⟨w1, ow1, φ1, ts1, k1, r1, m1, p1, n1, t1, s1⟩ := h1 w ow φ ts hr g
  obtain ⟨ow2, φ2, r2, m2, p2, n2, k2⟩ := evConvs_sound h ho N w1 ow1 φ1 ts1 r1
  have r1' : (Out.ret st1).st = st1 := rfl
  exact ⟨w1, ow2, φ2, ts1, k1, r2, m1.trans m2, fun i hi => by rw [p2 i (Nat.lt_of_lt_of_le hi n1), p1 i hi], Nat.le_trans n1 n2, t1, fun b hb cs => by rw [show (Out.ret st2).st.marks = (Out.ret st1).st.marks from k2]; exact s1 b hb cs⟩
theorem Reach.told {todo : List Item} {st st1 : St} {obs : List Prop} {orc : List Orc} (h : evConvs st orc = some (st1, obs)) (ho : AllP obs) : Reach P N todo st (.at todo st1) :=
  Reach.conv (evConvs_sound h ho) fun w ow φ ts hr g => ⟨w, ow, φ, ts, todo, hr, Mods.refl _ _, fun _ _ => rfl, Nat.le_refl _, rfl, fun _ _ _ => .refl _ _⟩
end


/-! From a row's arguments to what the engine reads. -/
theorem lt_of_cell {w : World} {a : Addr} {v : Value} (h : w.cell? a = some v) : a.block < w.heap.size := by
  unfold World.cell? at h
  split at h
  · rename_i c e f hc
    rcases Nat.lt_or_ge a.block w.heap.size with h' | h'
    · exact h'
    · rw [Array.getElem?_eq_none h'] at hc; cases hc
  · cases h

theorem RD_row {w : World} {Z : Nat → Prop} {k : IntKind} {a : Option Addr} {len cap : Nat} {zs : List Int}
    (h : (a = none ∧ len = 0 ∧ cap = 0 ∧ zs = []) ∨ ∃ x, a = some x ∧ len ≤ cap ∧ cap ≤ maxLen ∧ zs.length = cap ∧ (∀ i, i < zs.length → w.cell? (x.add i) = some (.int k (zs.getD i 0))) ∧ ∀ n ∈ zs, (Lit.int k n).wf = true)
    (hs : ∀ p, a = some p → p.spot = none) (hZ : ∀ b, b < w.heap.size → Z b) :
    RD w Z 0 (.sl 1 ((zs.take len).map (EI k))) (.slice a len cap) [] ∧ (zs.take len).length = len ∧ ∀ n ∈ zs.take len, (Lit.int k n).wf = true := by
  rcases h with ⟨rfl, rfl, rfl, rfl⟩ | ⟨x, rfl, hl, hm, hz, hc, hw⟩
  · simp only [RD]
    exact ⟨⟨trivial, Nat.le_refl _, none, 0, rfl, by simp, by simp, by simp, by simp⟩, rfl, by simp⟩
  · have hlen : (zs.take len).length = len := by simp; omega
    have hsp := hs x rfl
    refine ⟨?_, hlen, fun n hn => hw n (List.mem_of_mem_take hn)⟩
    simp only [RD]
    refine ⟨trivial, Nat.le_refl _, some x, cap, by rw [List.length_map, hlen], by rw [List.length_map, hlen]; exact hl, fun p hp => hs p hp, by simp, fun hne => ⟨x, rfl, ?_, ?_⟩⟩
    · have h0 : 0 < zs.length := by
        rcases Nat.eq_zero_or_pos zs.length with h | h
        · have : zs = [] := List.eq_nil_of_length_eq_zero h
          subst this; simp at hne
        · exact h
      have := lt_of_cell (hc 0 h0)
      exact hZ _ (by simpa [Addr.add] using this)
    · refine RX.of0 fun i y hy => ?_
      rw [List.getElem?_map, Option.map_eq_some_iff] at hy
      obtain ⟨n, hn, rfl⟩ := hy
      have hi := lt_of_get hn
      rw [List.getElem?_take] at hn
      split at hn
      · have hiz := lt_of_get hn
        refine ⟨rfl, ?_⟩
        simp only [EI, RC]
        refine ⟨.int k n, [], [], ?_, rfl, ?_, rfl⟩
        · have := hc i hiz
          obtain ⟨b, o, s⟩ := x
          simp only at hsp; subst hsp
          rw [addr_add] at this
          simp only [mem, Nat.mul_one]
          rw [this, List.getD_eq_getElem?_getD, hn]; rfl
        · simp [RD]
      · cases hn

/-- A law's walk: its pure answer is true. -/
theorem FunJ.law {P : Program} {f : FuncId} {args : List PV} (h : FunJ P f args [] (.v 0 (.d (.bool true))) []) {w : World} {vs : List Value} (hv : RPs w (fun b => b < w.heap.size) (fun _ => 0) 0 args vs) :
    Calls P f vs.toArray w fun e w' => e = .returned (.bool true) ∧ Go.RowKit.Below w.heap.size w w' := by
  refine (FunJ.calls h hv).mono fun e w' he => ?_
  obtain ⟨⟨v, rfl, Z, φ, n, hp⟩, hb⟩ := he
  simp only [RP, RD] at hp
  rw [hp.1]
  exact ⟨rfl, hb⟩

end Go.Ev
