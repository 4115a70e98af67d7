/- The engine's part EvR: what a function's code does, told of values; no program in sight. Conditions: none. -/
import Derived.Test.YtahajbmidocihaaEvQ
import Derived.KernelRfl
import Derived.ChangeSlices
import Derived.ChangeArms
import Derived.OpenShut
import Derived.Carry
import Derived.ChangeSame
import Derived.JoinedCond
import Derived.WalkKit
import Derived.ProofKit
import Derived.ShutString
import Derived.ChangeOld
import Derived.SizedLaws
set_option linter.unusedVariables false
set_option linter.unusedSimpArgs false
namespace Go.Ev

/-! What the printed texts use. -/
def bodyOf (f : Func) : Code := f.body.getD .skip

def nav : List Item → List Nat → List Item
  | t, [] => t
  | .code (.seq x y) :: k, 0 :: r => nav (.code x :: .code y :: k) r
  | .code (.seq _ y) :: k, 1 :: r => nav (.code y :: k) r
  | .code (.cond _ x _) :: k, 0 :: r => nav (.code x :: k) r
  | .code (.cond _ _ y) :: k, 1 :: r => nav (.code y :: k) r
  | .code (.block id c) :: k, 0 :: r => nav (.code c :: .inBlock id :: k) r
  | .code (.scope c) :: k, 0 :: r => nav (.code c :: .inScope c :: k) r
  | .code (.loop c) :: k, 0 :: r => nav (.code c :: .inLoop c :: k) r
  | _ :: k, _ :: r => nav k r
  | [], _ => []

/-! How elements are told: one function for each type. -/
def EI (k : IntKind) (n : Int) : List D := [.int k n]
def EB (b : Bool) : List D := [.bool b]
def ES (s : ByteArray) : List D := [.str s]
def EL {α : Type} (s : Nat) (e : α → List D) (xs : List α) : List D := [.sl s (xs.map e)]

/-! What the functions' answers are made of. -/
def at? {α : Type} (xs : List α) (i : Int) : Option α := if 0 ≤ i then xs[i.toNat]? else none
def req {α : Type} (p : Prop) [Decidable p] (k : Option α) : Option α := if p then k else none
def br {α : Type} (b : Bool) (x y : Option α) : Option α := match b with
  | true => x
  | false => y
def bnd {α β : Type} (o : Option α) (k : α → Option β) : Option β := o.bind k

theorem at_nn {α : Type} {xs : List α} {i : Int} {x : α} (h : at? xs i = some x) : 0 ≤ i := by
  unfold at? at h; split at h
  · assumption
  · cases h
theorem at_get {α : Type} {xs : List α} {i : Int} {x : α} (h : at? xs i = some x) : xs[i.toNat]? = some x := by
  unfold at? at h; split at h
  · exact h
  · cases h
theorem at_map {α : Type} {xs : List α} {i : Int} {x : α} (e : α → List D) (h : at? xs i = some x) : (xs.map e)[i.toNat]? = some (e x) := by
  rw [List.getElem?_map, at_get h]; rfl
theorem at_lt {α : Type} {xs : List α} {i : Int} {x : α} (e : α → List D) (h : at? xs i = some x) : i < ((xs.map e).length : Nat) := by
  have := lt_of_get (at_get h)
  have := at_nn h
  simp; omega
theorem req_some {α : Type} {p : Prop} [Decidable p] {k : Option α} {r : α} (h : req p k = some r) : p ∧ k = some r := by
  unfold req at h; split at h
  · exact ⟨by assumption, h⟩
  · cases h
theorem br_some {α : Type} {b : Bool} {x y : Option α} {r : α} (h : br b x y = some r) : (b = true ∧ x = some r) ∨ (b = false ∧ y = some r) := by
  cases b
  · exact .inr ⟨rfl, h⟩
  · exact .inl ⟨rfl, h⟩
theorem bnd_some {α β : Type} {o : Option α} {k : α → Option β} {r : β} (h : bnd o k = some r) : ∃ x, o = some x ∧ k x = some r := by
  unfold bnd at h
  cases o with
  | none => cases h
  | some x => exact ⟨x, rfl, h⟩

/-! Cuts. -/
def cut {α : Type} (xs : List α) (lo hi : Option Int) : List α :=
  match lo, hi with
  | none, none => xs
  | none, some b => xs.take b.toNat
  | some a, none => xs.drop a.toNat
  | some a, some b => (xs.take b.toNat).drop a.toNat
theorem cutL_map {α : Type} (e : α → List D) (xs : List α) (lo hi : Option Int) : cutL (xs.map e) lo hi = (cut xs lo hi).map e := by
  cases lo <;> cases hi <;> simp [cutL, cut, List.map_take, List.map_drop]
/-- What a cut asks. -/
def cutOk (n : Nat) (lo hi : Option Int) : Prop :=
  match lo, hi with
  | none, none => True
  | none, some b => 0 ≤ b ∧ b ≤ n
  | some a, none => 0 ≤ a ∧ a ≤ n
  | some a, some b => 0 ≤ a ∧ a ≤ b ∧ b ≤ n
instance (n : Nat) (lo hi : Option Int) : Decidable (cutOk n lo hi) := by unfold cutOk; split <;> infer_instance

/-- What an append asks of the sizes. -/
def fits (n by' : Nat) : Prop := n ≤ 9223372036854775807 ∧ n * by' ≤ 140737488355328
instance (n m : Nat) : Decidable (fits n m) := by unfold fits; infer_instance
theorem fits1 {α β : Type} {xs : List α} {ys : List β} {m : Nat} {e : α → List D} {e' : β → List D} (h : fits (xs.length + ys.length) m) : (xs.map e).length + (ys.map e').length ≤ 9223372036854775807 := by simpa using h.1
theorem fits2 {α β : Type} {xs : List α} {ys : List β} {m : Nat} {e : α → List D} {e' : β → List D} (h : fits (xs.length + ys.length) m) : ((xs.map e).length + (ys.map e').length) * m ≤ 140737488355328 := by simpa using h.2

theorem set_map {α : Type} (e : α → List D) (xs : List α) (i : Nat) (v : α) : (xs.map e).set i (e v) = (xs.set i v).map e := by rw [List.map_set]
theorem app_map {α : Type} (e : α → List D) (xs ys : List α) : xs.map e ++ ys.map e = (xs ++ ys).map e := by simp

theorem len_eq {α : Type} (e : α → List D) (xs : List α) : (It.v 0 (.d (.int .i64 ((xs.map e).length : Nat)))) = .v 0 (.d (.int .i64 ((xs.length : Nat) : Int))) := by rw [List.length_map]
theorem cut_full {α : Type} (e : α → List D) (xs : List α) : cutL (xs.map e) none (some ((xs.length : Nat) : Int)) = xs.map e := by simp [cutL, ← List.map_take]
theorem cut_f0 {n : Nat} : 0 ≤ (n : Int) := Int.natCast_nonneg n
theorem cut_f1 {α : Type} (e : α → List D) (xs : List α) : ((xs.length : Nat) : Int) ≤ ((xs.map e).length : Nat) := by simp
theorem cut_b0 {n : Nat} {b : Int} (h : cutOk n none (some b)) : 0 ≤ b := h.1
theorem cut_b1 {α : Type} {xs : List α} (e : α → List D) {b : Int} (h : cutOk xs.length none (some b)) : b ≤ ((xs.map e).length : Nat) := by rw [List.length_map]; exact h.2
theorem cut_a0 {n : Nat} {b : Int} (h : cutOk n (some b) none) : 0 ≤ b := h.1
theorem cut_a1 {α : Type} {xs : List α} (e : α → List D) {b : Int} (h : cutOk xs.length (some b) none) : b ≤ ((xs.map e).length : Nat) := by rw [List.length_map]; exact h.2
theorem cut_c0 {n : Nat} {a b : Int} (h : cutOk n (some a) (some b)) : 0 ≤ a := h.1
theorem cut_c1 {n : Nat} {a b : Int} (h : cutOk n (some a) (some b)) : a ≤ b := h.2.1
theorem cut_c2 {α : Type} {xs : List α} (e : α → List D) {a b : Int} (h : cutOk xs.length (some a) (some b)) : b ≤ ((xs.map e).length : Nat) := by rw [List.length_map]; exact h.2.2

/-- What a step of a drawn region leaves. -/
def DE (st : St) (its : List (Option (Nat × It))) (i : Nat) : Prop := ({ st with env := ent its i ++ st.env } : St) = { st with env := ent its i ++ st.env }

def stageAt (Ss : List (Env × Objs)) (s : Nat) : Env × Objs := Ss.getD s ([], [])
def DM (st : St) (its : List (Option (Nat × It))) (Ss : List (Env × Objs)) (k i s : Nat) : Prop := ({ st with env := ent its i ++ (stageAt Ss s).1, objs := (stageAt Ss s).2 } : St) = { st with env := ent its i ++ (stageAt Ss s).1, objs := (stageAt Ss s).2 }

def mkFits (l c : Int) (b : Nat) : Prop := 0 ≤ l ∧ l ≤ c ∧ (b : Int) * c ≤ 281474976710656 ∧ c ≤ 9223372036854775807
instance {l c : Int} {b : Nat} : Decidable (mkFits l c b) := by unfold mkFits; infer_instance
theorem rep_map {α : Type} (e : α → List D) (n : Nat) (z : α) : List.replicate n (e z) = List.map e (List.replicate n z) := by simp

def alt {α β γ : Type} (o : α ⊕ β) (f : α → Option γ) (g : β → Option γ) : Option γ := match o with
  | .inl x => f x
  | .inr y => g y
theorem alt_some {α β γ : Type} {o : α ⊕ β} {f : α → Option γ} {g : β → Option γ} {r : γ} (h : alt o f g = some r) : (∃ x, o = .inl x ∧ f x = some r) ∨ (∃ y, o = .inr y ∧ g y = some r) := by
  cases o with
  | inl x => exact .inl ⟨x, rfl, h⟩
  | inr y => exact .inr ⟨y, rfl, h⟩

def zeroB (P : Program) (t : TypeId) (ps : List PV) : Bool := match P.info? t with
  | some inf => match inf.zero with
    | some z => zok z.cells.toList ps
    | none => false
  | none => false
theorem ZeroOK.of {P : Program} {t : TypeId} {ps : List PV} (h : zeroB P t ps = true) : ZeroOK P t ps := by
  unfold zeroB at h
  split at h
  · rename_i inf hi
    split at h
    · rename_i z hz
      exact ⟨inf, z, hi, hz, h⟩
    · cases h
  · cases h

/-! Obligations. -/
theorem AN : AllP [] := trivial
theorem AC {p : Prop} {ps : List Prop} (h : p) (h' : AllP ps) : AllP (p :: ps) := ⟨h, h'⟩
theorem AA : ∀ {ps qs : List Prop} (h : AllP ps) (h' : AllP qs), AllP (ps ++ qs)
  | [], _, _, h' => h'
  | _ :: _, _, h, h' => ⟨h.1, AA h.2 h'⟩
def DEs (st : St) (its : List (Option (Nat × It))) (l : List Nat) : List Prop := l.map (DE st its)
theorem ADs {st : St} {its : List (Option (Nat × It))} : ∀ l, AllP (DEs st its l)
  | [] => trivial
  | _ :: l => ⟨rfl, ADs l⟩

section
variable {P : Program} {N : Nat}
theorem Reach.trans {todo todo1 : List Item} {st st1 : St} {out : Out} (h : Reach P N todo st (.at todo1 st1)) (h' : Reach P N todo1 st1 out) (hm : Nat.ble st.objs.length st1.objs.length = true) : Reach P N todo st out := by
  intro w ow φ ts hr g
  have hm := Nat.le_of_ble_eq_true hm
  obtain ⟨w1, ow1, φ1, ts1, k1, r1, m1, p1, n1, t1, s1⟩ := h w ow φ ts hr g
  have t1 : k1 = todo1 := t1
  subst t1
  obtain ⟨w2, ow2, φ2, ts2, k2, r2, m2, p2, n2, t2, s2⟩ := h' w1 ow1 φ1 ts1 r1 g
  exact ⟨w2, ow2, φ2, ts2, k2, r2, m1.trans m2, fun i hi hi2 => by rw [p2 i (by omega) hi2, p1 i hi (by show i < st1.objs.length; omega)], trivial, t2, fun b hb cs => (s1 b hb cs).trans (s2 b hb cs)⟩
theorem Reach.nilSplit {todo : List Item} {st : St} {out : Out} {t s : Nat} {xs : List (List D)} (hl : look st.env t = some (.v 0 (.d (.sl s xs)))) (h1 : xs = [] → Reach P N todo { st with env := putE st.env t .nils } out)
    (h2 : Reach P N todo { st with env := putE st.env t (.nn s xs) } out) : Reach P N todo st out := by
  intro w ow φ ts hr g
  obtain ⟨v, hv, B, hp, _, _⟩ := hr.env _ _ (look_mem hl)
  obtain rfl := RP.zeroB hp
  simp only [RP] at hp
  have hp0 := hp
  simp only [RD] at hp
  obtain ⟨_, _, a, cap, hve, _, _, hn, hx⟩ := hp
  cases a with
  | none =>
    have hxs : xs = [] := by
      by_cases e : xs = []
      · exact e
      · obtain ⟨p, hp, _⟩ := hx e; cases hp
    have hc := hn rfl
    subst hxs; subst hc
    exact h1 rfl w ow φ ts (putE_rel hr ⟨v, hv, (by simpa using hve : v = .slice none 0 0)⟩) g
  | some a => exact h2 w ow φ ts (putE_rel hr ⟨v, hv, hp0, a, _, _, hve⟩) g
theorem Reach.retold {todo : List Item} {st st1 st2 : St} {obs : List Prop} {orc : List Orc} (h1 : Reach P N todo st (.ret st1)) (hl : st.objs.length ≤ st1.objs.length) (h : evConvs st1 orc = some (st2, obs)) (ho : AllP obs) : Reach P N todo st (.ret st2) := by
  intro w ow φ ts hr g
  obtain ⟨w1, ow1, φ1, ts1, k1, r1, m1, p1, n1, t1, s1⟩ := h1 w ow φ ts hr g
  obtain ⟨ow2, φ2, r2, m2, p2, n2, k2⟩ := evConvs_sound h ho N w1 ow1 φ1 ts1 r1
  exact ⟨w1, ow2, φ2, ts1, k1, r2, m1.trans m2, fun i hi hi2 => by rw [p2 i (Nat.lt_of_lt_of_le hi hl), p1 i hi (Nat.lt_of_lt_of_le hi hl)], trivial, t1, fun b hb cs => by rw [show (Out.ret st2).st.marks = (Out.ret st1).st.marks from k2]; exact s1 b hb cs⟩
theorem Reach.retfew {todo : List Item} {st st1 : St} (m : Nat) (h1 : Reach P N todo st (.ret st1)) (hf : fewB st1 m = true) : Reach P N todo st (.ret { st1 with objs := st1.objs.take m }) := by
  intro w ow φ ts hr g
  obtain ⟨w1, ow1, φ1, ts1, k1, r1, m1, p1, n1, t1, s1⟩ := h1 w ow φ ts hr g
  exact ⟨w1, ow1, φ1, ts1, k1, Rel.fewer hf r1, m1, fun i hi hi2 => p1 i hi (by
    have : i < (st1.objs.take m).length := hi2
    rw [List.length_take] at this
    show i < st1.objs.length; omega), trivial, t1, s1⟩
theorem FunJ.of' {f : FuncId} {fn : Func} {body : Code} {args : List PV} {oc oc' : Objs} {res : It} {rs : List Nat} (m : Nat) (hf : P.funcs[f]? = some fn) (hb : fn.body = some body) (hname : (fn.name == "runtime.NumGoroutine") = false) (hN : fn.ntmps = N) (hle : args.length ≤ N)
    (h : ∃ st', Reach P N [.code body] (st0 args oc) (.ret st') ∧ ResOK P N fn st' rs res ∧ st'.marks = [] ∧ Nat.ble m st'.objs.length = true ∧ st'.objs.take m = oc') (hm : Nat.ble oc.length m = true) (hr : resFew m res = true) (ho : oc'.all (oknC m) = true) : FunJ P f args oc res oc' := by
  obtain ⟨st', h1, h2, h3, h4, rfl⟩ := h
  have h4 := Nat.le_of_ble_eq_true h4
  have hm := Nat.le_of_ble_eq_true hm
  exact FunJ.fewer m (FunJ.of hf hb hname hN hle h1 (Nat.le_trans hm h4) h3 h2) hm h4 hr ho
theorem FunJ.of2' {f : FuncId} {fn : Func} {body : Code} {args : List PV} {oc oc' : Objs} {res : It} {ci cj : Nat} (m : Nat) (hf : P.funcs[f]? = some fn) (hb : fn.body = some body) (hname : (fn.name == "runtime.NumGoroutine") = false) (hN : fn.ntmps = N) (hle : args.length ≤ N)
    (h : ∃ st', Reach P N [.code body] (st0 args oc) (.ret st') ∧ ResOK2 P N fn st' [] ci cj res ∧ st'.marks = [] ∧ Nat.ble m st'.objs.length = true ∧ st'.objs.take m = oc') (hm : Nat.ble oc.length m = true) (hci : Nat.ble m ci = true) (hr : resFew m res = true) (ho : oc'.all (oknC m) = true) : FunJ P f args oc res oc' := by
  obtain ⟨st', h1, h2, h3, h4, rfl⟩ := h
  have h4 := Nat.le_of_ble_eq_true h4
  have hm := Nat.le_of_ble_eq_true hm
  exact FunJ.of2 m hf hb hname hN hle h1 (Nat.le_trans hm h4) h3 hm h4 (Nat.le_of_ble_eq_true hci) h2 hr ho
theorem Reach.told {todo : List Item} {st st1 : St} {obs : List Prop} {orc : List Orc} (h : evConvs st orc = some (st1, obs)) (ho : AllP obs) : Reach P N todo st (.at todo st1) :=
  Reach.conv (evConvs_sound h ho) fun w ow φ ts hr g => ⟨w, ow, φ, ts, todo, hr, Mods.refl _ _, fun _ _ _ => rfl, trivial, rfl, fun _ _ _ => .refl _ _⟩
end


/-! From a row's arguments to what the engine reads. -/
theorem lt_of_cell {w : World} {a : Addr} {v : Value} (h : w.cell? a = some v) : a.block < w.heap.size := by
  unfold World.cell? at h
  split at h
  · rename_i c e f hc
    rcases Nat.lt_or_ge a.block w.heap.size with h' | h'
    · exact h'
    · rw [Array.getElem?_eq_none h'] at hc; cases hc
  · cases h

theorem RD_row {w : World} {Z : Nat → Prop} {k : IntKind} {a : Option Addr} {len cap : Nat} {zs : List Int}
    (h : (a = none ∧ len = 0 ∧ cap = 0 ∧ zs = []) ∨ ∃ x, a = some x ∧ len ≤ cap ∧ cap ≤ maxLen ∧ zs.length = cap ∧ (∀ i, i < zs.length → w.cell? (x.add i) = some (.int k (zs.getD i 0))) ∧ ∀ n ∈ zs, (Lit.int k n).wf = true)
    (hs : ∀ p, a = some p → p.spot = none) (hZ : ∀ b, b < w.heap.size → Z b) :
    RD w Z 0 (.sl 1 ((zs.take len).map (EI k))) (.slice a len cap) [] ∧ (zs.take len).length = len ∧ ∀ n ∈ zs.take len, (Lit.int k n).wf = true := by
  rcases h with ⟨rfl, rfl, rfl, rfl⟩ | ⟨x, rfl, hl, hm, hz, hc, hw⟩
  · simp only [RD]
    exact ⟨⟨trivial, Nat.le_refl _, none, 0, rfl, by simp, by simp, by simp, by simp⟩, rfl, by simp⟩
  · have hlen : (zs.take len).length = len := by simp; omega
    have hsp := hs x rfl
    refine ⟨?_, hlen, fun n hn => hw n (List.mem_of_mem_take hn)⟩
    simp only [RD]
    refine ⟨trivial, Nat.le_refl _, some x, cap, by rw [List.length_map, hlen], by rw [List.length_map, hlen]; exact hl, fun p hp _ => hs p hp, by simp, fun hne => ⟨x, rfl, ?_, ?_⟩⟩
    · have h0 : 0 < zs.length := by
        rcases Nat.eq_zero_or_pos zs.length with h | h
        · have : zs = [] := List.eq_nil_of_length_eq_zero h
          subst this; simp at hne
        · exact h
      have := lt_of_cell (hc 0 h0)
      exact hZ _ (by simpa [Addr.add] using this)
    · refine RX.of0 fun i y hy => ?_
      rw [List.getElem?_map, Option.map_eq_some_iff] at hy
      obtain ⟨n, hn, rfl⟩ := hy
      have hi := lt_of_get hn
      rw [List.getElem?_take] at hn
      split at hn
      · have hiz := lt_of_get hn
        refine ⟨rfl, ?_⟩
        simp only [EI, RC]
        refine ⟨.int k n, [], [], ?_, rfl, ?_, rfl⟩
        · have := hc i hiz
          obtain ⟨b, o, s⟩ := x
          simp only at hsp; subst hsp
          rw [addr_add] at this
          simp only [mem, Nat.mul_one]
          rw [this, List.getD_eq_getElem?_getD, hn]; rfl
        · simp [RD]
      · cases hn

/-- A law's walk: its pure answer is true. -/
theorem FunJ.law {P : Program} {f : FuncId} {args : List PV} (h : FunJ P f args [] (.v 0 (.d (.bool true))) []) {w : World} {vs : List Value} (hv : RPs w (fun b => b < w.heap.size) (fun _ => 0) 0 args vs) :
    Calls P f vs.toArray w fun e w' => e = .returned (.bool true) ∧ Go.RowKit.Below w.heap.size w w' := by
  refine (FunJ.calls h hv).mono fun e w' he => ?_
  obtain ⟨⟨v, rfl, Z, φ, n, hp⟩, hb⟩ := he
  simp only [RP, RD] at hp
  rw [hp.1]
  exact ⟨rfl, hb⟩


/-! Any argument of ints, bools, strings, slices, structs and arrays, told of data. -/
def TyAll {α : Type} (R : α → List D → Prop) : List α → List D → Prop
  | [], ds => ds = []
  | t :: ts, ds => ∃ a b, ds = a ++ b ∧ R t a ∧ TyAll R ts b
def TyD (P : Program) : Nat → TypeId → List D → Prop
  | 0, _, _ => False
  | f + 1, t, ds => match P.underlying t with
    | some (.int k) => ∃ n, ds = [.int k n] ∧ (Lit.int k n).wf = true
    | some .bool => ∃ b, ds = [.bool b]
    | some .string => ∃ s : ByteArray, ds = [.str s] ∧ s.size ≤ maxLen
    | some (.slice e) => ∃ xs, ds = [.sl (P.cellsOf e) xs] ∧ ∀ x ∈ xs, TyD P f e x
    | some (.struct fs) => TyAll (TyD P f) (fs.toList.map (·.type)) ds
    | some (.array n e) => TyAll (TyD P f) (List.replicate n e) ds
    | _ => False
def okFs (ok : TypeId → Bool) (sz : TypeId → Nat) (n : Nat) : Nat → List Field → Bool
  | off, [] => off == n
  | off, f :: fs => f.offset == off && ok f.type && okFs ok sz n (off + sz f.type) fs
def okT (P : Program) : Nat → TypeId → Bool
  | 0, _ => false
  | f + 1, t => match P.underlying t with
    | some (.int _) => true
    | some .bool => true
    | some .string => true
    | some (.slice e) => decide (1 ≤ P.cellsOf e) && okT P f e
    | some (.struct fs) => okFs (okT P f) P.cellsOf (P.cellsOf t) 0 fs.toList
    | some (.array n e) => P.cellsOf t == n * P.cellsOf e && okT P f e
    | _ => false

mutual
def bk : D → Nat
  | .int _ _ => 1
  | .bool _ => 1
  | .str s => s.size + 1
  | .sl _ xs => bkX xs + 1
  | .any => 1
  | .nl _ => 1
def bkL : List D → Nat
  | [] => 0
  | d :: ds => bk d + bkL ds
def bkX : List (List D) → Nat
  | [] => 0
  | x :: xs => bkL x + bkX xs
end
theorem bkL_append : ∀ a b : List D, bkL (a ++ b) = bkL a + bkL b
  | [], b => by simp [bkL]
  | x :: a, b => by simp only [List.cons_append, bkL, bkL_append a b]; omega

mutual
def dw {H : Type} : DataW H → Nat
  | .lit (.string b) => b.length + 1
  | .lit _ => 1
  | .slice es sp => dwL es + dwL sp + 1
  | .agg ps => dwL ps + 1
  | .ptr d => dw d + 1
  | _ => 1
def dwL {H : Type} : List (DataW H) → Nat
  | [] => 0
  | d :: ds => dw d + dwL ds
end

def RL (w : World) (Z : Nat → Prop) : List D → List Value → Prop
  | [], [] => True
  | d :: ds, v :: vs => RD w Z 0 d v [] ∧ RL w Z ds vs
  | _, _ => False
theorem RL.length {w : World} {Z : Nat → Prop} : ∀ {ds : List D} {vs : List Value}, RL w Z ds vs → ds.length = vs.length
  | [], [], _ => rfl
  | d :: ds, v :: vs, h => by simp only [RL] at h; simp [h.2.length]
  | [], _ :: _, h => by simp [RL] at h
  | _ :: _, [], h => by simp [RL] at h
theorem RL.append {w : World} {Z : Nat → Prop} : ∀ {a b : List D} {x y : List Value}, RL w Z a x → RL w Z b y → RL w Z (a ++ b) (x ++ y)
  | [], _, [], _, _, h => h
  | d :: ds, _, v :: vs, _, h, h2 => by simp only [RL] at h; exact ⟨h.1, h.2.append h2⟩
  | [], _, _ :: _, _, h, _ => by simp [RL] at h
  | _ :: _, _, [], _, h, _ => by simp [RL] at h
theorem RL.rc {w : World} {Z : Nat → Prop} {g : Nat → Option Value} : ∀ {ds : List D} {vs : List Value} {off : Nat}, RL w Z ds vs → (∀ i v, vs[i]? = some v → g (off + i) = some v) → RC w Z 0 ds g off []
  | [], [], _, _, _ => by simp [RC]
  | d :: ds, v :: vs, off, h, hg => by
    simp only [RL] at h
    simp only [RC]
    exact ⟨v, [], [], by simpa using hg 0 v rfl, rfl, h.1, h.2.rc fun i u hu => by have := hg (i + 1) u (by simpa using hu); rwa [show off + (i + 1) = off + 1 + i by omega] at this⟩
  | [], _ :: _, _, h, _ => by simp [RL] at h
  | _ :: _, [], _, h, _ => by simp [RL] at h

theorem spot_of_cell {w : World} {a : Addr} {v : Value} (h : w.cell? a = some v) : a.spot = none := by
  unfold World.cell? at h
  split at h
  · cases ha : a.spot with
    | none => rfl
    | some s => rw [ha] at h; simp at h
  · cases h

section
variable {H : Type} {enc : TypeId × Value → H} {P : Program} {w : World}

def Opens (enc : TypeId × Value → H) (P : Program) (w : World) (k : Nat) : Prop := ∀ (t : TypeId) (fuel : Nat) (cs : List Value) (x : DataW H × List MemPlace),
  okT P k t = true → DataW.trod enc P w 0 (fun _ => true) true fuel t cs = some x → ∃ ds, TyD P k t ds ∧ RL w (fun b => b < w.heap.size) ds cs ∧ bkL ds ≤ dw x.1

theorem opens_fields {k : Nat} (ih : Opens enc P w k) {fuel : Nat} {cs : List Value} : ∀ (fs : List Field) (off : Nat) (xs : List (DataW H × List MemPlace)),
    okFs (okT P k) P.cellsOf cs.length off fs = true → xs.length = fs.length →
    (∀ (i : Nat) (f : Field), fs[i]? = some f → DataW.trod enc P w 0 (fun _ => true) true fuel f.type ((cs.drop f.offset).take (P.cellsOf f.type)) = xs[i]?) →
    ∃ ds, TyAll (TyD P k) (fs.map (·.type)) ds ∧ RL w (fun b => b < w.heap.size) ds (cs.drop off) ∧ bkL ds ≤ dwL (xs.map (·.1))
  | [], off, xs, hok, hl, h => by
    simp only [okFs, beq_iff_eq] at hok
    subst hok
    exact ⟨[], rfl, by simp [RL], by simp [bkL]⟩
  | f :: fs, off, [], hok, hl, h => by simp at hl
  | f :: fs, off, x :: xs, hok, hl, h => by
    simp only [okFs, Bool.and_eq_true, beq_iff_eq] at hok
    obtain ⟨⟨ho, hk⟩, hr⟩ := hok
    obtain ⟨ds, d1, d2, d3⟩ := ih _ _ _ _ hk (h 0 f rfl)
    obtain ⟨es, e1, e2, e3⟩ := opens_fields ih fs _ xs hr (by simpa using hl) fun i g hg => by simpa using h (i + 1) g (by simpa using hg)
    refine ⟨ds ++ es, ⟨ds, es, rfl, d1, e1⟩, ?_, ?_⟩
    · have := d2.append e2
      rwa [ho, ← List.drop_drop, List.take_append_drop] at this
    · rw [bkL_append]; simp only [List.map_cons, dwL]; omega

theorem opens_array {k n : Nat} (ih : Opens enc P w k) {fuel e : Nat} (he : okT P k e = true) {cs : List Value} (hc : cs.length = n * P.cellsOf e) : ∀ (m i : Nat) (xs : List (DataW H × List MemPlace)),
    m + i = n → xs.length = m →
    (∀ j, j < m → DataW.trod enc P w 0 (fun _ => true) true fuel e ((cs.drop ((i + j) * P.cellsOf e)).take (P.cellsOf e)) = xs[j]?) →
    ∃ ds, TyAll (TyD P k) (List.replicate m e) ds ∧ RL w (fun b => b < w.heap.size) ds (cs.drop (i * P.cellsOf e)) ∧ bkL ds ≤ dwL (xs.map (·.1))
  | 0, i, xs, hi, hl, h => by
    obtain rfl : i = n := by omega
    refine ⟨[], rfl, ?_, by simp [bkL]⟩
    rw [← hc, List.drop_length]; trivial
  | m + 1, i, [], hi, hl, h => by simp at hl
  | m + 1, i, x :: xs, hi, hl, h => by
    obtain ⟨ds, d1, d2, d3⟩ := ih _ _ _ _ he (h 0 (by omega))
    obtain ⟨es, e1, e2, e3⟩ := opens_array ih he hc m (i + 1) xs (by omega) (by simpa using hl) fun j hj => by
      have := h (j + 1) (by omega)
      rw [show i + (j + 1) = i + 1 + j by omega] at this
      simpa using this
    refine ⟨ds ++ es, ⟨ds, es, rfl, d1, e1⟩, ?_, ?_⟩
    · have := d2.append e2
      rwa [Nat.add_zero, Nat.add_mul, Nat.one_mul, ← List.drop_drop, List.take_append_drop] at this
    · rw [bkL_append]; simp only [List.map_cons, dwL]; omega

theorem opens_slice {k : Nat} (ih : Opens enc P w k) {fuel e : Nat} (he : okT P k e = true) {a : Addr} : ∀ (m i : Nat) (xs : List (DataW H × List MemPlace)), xs.length = m →
    (∀ j, j < m → (w.cells? 0 (a.add ((i + j) * P.cellsOf e)) (P.cellsOf e)).bind (DataW.trod enc P w 0 (fun _ => true) true fuel e) = xs[j]?) →
    ∃ rows : List (List D), rows.length = m ∧ (∀ x ∈ rows, TyD P k e x) ∧
      (∀ j x, rows[j]? = some x → ∃ cs, w.cells? 0 (a.add ((i + j) * P.cellsOf e)) (P.cellsOf e) = some cs ∧ RL w (fun b => b < w.heap.size) x cs) ∧ bkX rows ≤ dwL (xs.map (·.1))
  | 0, i, xs, hl, h => ⟨[], rfl, by simp, by simp, by simp [bkX]⟩
  | m + 1, i, [], hl, h => by simp at hl
  | m + 1, i, x :: xs, hl, h => by
    have h0 := h 0 (by omega)
    simp only [List.getElem?_cons_zero, Option.bind_eq_some_iff] at h0
    obtain ⟨cs, hcs, ht⟩ := h0
    obtain ⟨ds, d1, d2, d3⟩ := ih _ _ _ _ he ht
    obtain ⟨rows, r1, r2, r3, r4⟩ := opens_slice ih he (a := a) m (i + 1) xs (by simpa using hl) fun j hj => by
      have := h (j + 1) (by omega)
      rw [show i + (j + 1) = i + 1 + j by omega] at this
      simpa using this
    refine ⟨ds :: rows, by simp [r1], ?_, ?_, by simp only [List.map_cons, dwL, bkX]; omega⟩
    · intro y hy
      rcases List.mem_cons.1 hy with rfl | hy
      · exact d1
      · exact r2 y hy
    · intro j y hj
      cases j with
      | zero => simp at hj; subst hj; exact ⟨cs, by simpa using hcs, d2⟩
      | succ j =>
        have := r3 j y (by simpa using hj)
        rwa [show i + 1 + j = i + (j + 1) by omega] at this

theorem opens : ∀ k, Opens (H := H) enc P w k
  | 0 => fun _ _ _ _ h _ => by simp [okT] at h
  | k + 1 => fun t fuel cs x hk h => by
    simp only [okT] at hk
    simp only [TyD]
    split at hk
    · rename_i kd ht
      obtain ⟨n, rfl, rfl, hw⟩ := DataW.trod_int ht h
      exact ⟨_, ⟨n, rfl, hw⟩, by simp [RL, RD], by simp [bkL, bk, dw]⟩
    · rename_i ht
      obtain ⟨b, rfl, rfl⟩ := DataW.trod_bool ht h
      exact ⟨_, ⟨b, rfl⟩, by simp [RL, RD], by simp [bkL, bk, dw]⟩
    · rename_i ht
      obtain ⟨s, rfl, rfl, hs⟩ := DataW.trod_string ht h
      refine ⟨_, ⟨s, rfl, hs⟩, by simp [RL, RD], ?_⟩
      have : s.data.toList.length = s.size := by rw [Array.length_toList]; rfl
      simp only [bkL, bk, dw]; omega
    · rename_i e ht
      simp only [Bool.and_eq_true, decide_eq_true_eq] at hk
      rcases DataW.trod_slice ht h with ⟨rfl, rfl⟩ | ⟨a, len, cap, elems, rest, n, _, rfl, rfl, hb, hl, hm, hlen, hel, hsp, _⟩
      · refine ⟨_, ⟨[], rfl, by simp⟩, ?_, by simp [bkL, bk, bkX, dw]⟩
        simp only [RL, RD]
        exact ⟨⟨trivial, hk.1, none, 0, rfl, by simp, by simp, by simp, by simp⟩, trivial⟩
      · obtain ⟨rows, r1, r2, r3, r4⟩ := opens_slice (opens k) hk.2 (a := a) len 0 elems hlen fun j hj => by simpa using hel j hj
        obtain ⟨hr1, hr2⟩ := hsp rfl
        have first : cap ≠ 0 → ∃ v, w.cell? a = some v := by
          intro hc
          have : ∃ y, (w.cells? 0 a (P.cellsOf e)).bind (DataW.trod enc P w 0 (fun _ => true) true n e) = some y := by
            by_cases h0 : len = 0
            · have := hr2 0 (by omega)
              rw [h0, Nat.add_zero, Nat.zero_mul] at this
              have ha : a.add 0 = a := by simp [Addr.add]
              rw [ha] at this
              exact ⟨_, this.trans (List.getElem?_eq_getElem (by omega))⟩
            · have := hel 0 (by omega)
              rw [Nat.zero_mul] at this
              have ha : a.add 0 = a := by simp [Addr.add]
              rw [ha] at this
              exact ⟨_, this.trans (List.getElem?_eq_getElem (by omega))⟩
          obtain ⟨y, hy⟩ := this
          rw [Option.bind_eq_some_iff] at hy
          obtain ⟨cs, hcs, _⟩ := hy
          obtain ⟨_, h2, h3⟩ := World.cells?_some hcs
          have := h3 0 (by omega)
          have ha : a.add 0 = a := by simp [Addr.add]
          rw [ha, List.getElem?_eq_getElem (by omega)] at this
          exact ⟨_, this⟩
        refine ⟨_, ⟨rows, rfl, r2⟩, ?_, by simp only [bkL, bk, dw]; omega⟩
        simp only [RL, RD, and_true]
        refine ⟨trivial, hk.1, some a, cap, by rw [r1], by omega, fun p hp hc => ?_, by simp, fun hne => ⟨a, rfl, ?_, RX.of0 fun i y hy => ?_⟩⟩
        · cases hp; obtain ⟨v, hv⟩ := first hc; exact spot_of_cell hv
        · have : 0 < rows.length := List.length_pos_iff.2 hne
          obtain ⟨v, hv⟩ := first (by omega)
          exact lt_of_cell hv
        · have hi := lt_of_get hy
          obtain ⟨v, hv⟩ := first (by omega)
          have hspot := spot_of_cell hv
          obtain ⟨cs, hcs, hrl⟩ := r3 i y hy
          obtain ⟨_, h2, h3⟩ := World.cells?_some hcs
          refine ⟨by rw [hrl.length, h2], hrl.rc fun j u hu => ?_⟩
          have := h3 j (by have := lt_of_get hu; omega)
          rw [hu] at this
          obtain ⟨b, o, sp⟩ := a
          simp only at hspot; subst hspot
          rw [addr_add, addr_add, Nat.zero_add] at this
          exact this
    · rename_i fs ht
      obtain ⟨xs, n, _, rfl, hl, hxl, hf⟩ := DataW.trod_struct ht h
      rw [← hl] at hk
      obtain ⟨ds, d1, d2, d3⟩ := opens_fields (opens k) fs.toList 0 xs hk (by simpa using hxl) fun i f hf' => hf i f (by simpa using hf')
      exact ⟨ds, d1, d2, by simp only [dw]; omega⟩
    · rename_i n e ht
      simp only [Bool.and_eq_true, beq_iff_eq] at hk
      obtain ⟨xs, m, _, rfl, hl, hxl, hf⟩ := DataW.trod_array ht h
      obtain ⟨ds, d1, d2, d3⟩ := opens_array (opens k) hk.2 (n := n) (hl.trans hk.1) n 0 xs (by omega) hxl fun j hj => by simpa using hf j hj
      exact ⟨ds, d1, by simpa using d2, by simp only [dw]; omega⟩
    · cases hk

/-- An argument's value in the engine. -/
def pv1 : List D → PV
  | [d] => .d d
  | _ => .nilp
def pvOf (P : Program) (t : TypeId) (ds : List D) : PV := match P.underlying t with
  | some (.struct _) => .agg ds
  | some (.array _ _) => .agg ds
  | _ => pv1 ds
def pvsOf (P : Program) : List TypeId → List (List D) → List PV
  | t :: ts, x :: xs => pvOf P t x :: pvsOf P ts xs
  | _, _ => []
def TyArgs (P : Program) (k : Nat) : List TypeId → List (List D) → Prop
  | [], xs => xs = []
  | t :: ts, xs => ∃ x ys, xs = x :: ys ∧ TyD P k t x ∧ TyArgs P k ts ys

theorem open_arg {k : Nat} {t : TypeId} {v : Value} {d : DataW H} {ps : List MemPlace} (hk : okT P k t = true) (hv : Value.okWide P w .any 0 t v ∨ ∃ base, Value.okWide P w .any base t v) (h : DataW.Trod enc P w 0 (fun _ => true) true t v d ps) :
    ∃ ds, TyD P k t ds ∧ RP w (fun b => b < w.heap.size) (fun _ => 0) 0 0 (pvOf P t ds) v [] ∧ bkL ds ≤ dw d := by
  obtain ⟨fuel, h⟩ := h
  obtain ⟨ds, d1, d2, d3⟩ := opens k _ _ _ _ hk h
  refine ⟨ds, d1, ?_, d3⟩
  obtain ⟨base, hv⟩ : ∃ base, Value.okWide P w .any base t v := by rcases hv with h | h; exact ⟨0, h⟩; exact h
  have agg : ∀ cs : Array Value, v = .agg cs → RP w (fun b => b < w.heap.size) (fun _ => 0) 0 0 (.agg ds) v [] := by
    rintro cs rfl
    simp only [RP]
    refine ⟨cs, rfl, ?_, ?_⟩
    · have := d2.length; simpa [Value.cells] using this.symm
    · exact d2.rc fun i u hu => by simpa [Value.cells] using hu
  have one : (∀ cs, v ≠ .agg cs) → (∃ d, ds = [d] ∧ RD w (fun b => b < w.heap.size) 0 d v []) := by
    intro hn
    have : v.cells.toList = [v] := by cases v <;> simp [Value.cells] at hn ⊢
    rw [this] at d2
    match ds, d2 with
    | [d], h => exact ⟨d, rfl, h.1⟩
    | [], h => simp [RL] at h
    | _ :: _ :: _, h => simp [RL] at h
  have sc : (∀ cs, v ≠ .agg cs) → RP w (fun b => b < w.heap.size) (fun _ => 0) 0 0 (pv1 ds) v [] := by
    intro hn
    obtain ⟨d, rfl, hd⟩ := one hn
    simpa only [pv1, RP] using hd
  cases k with
  | zero => simp [okT] at hk
  | succ k =>
    simp only [okT] at hk
    simp only [pvOf]
    split at hk
    all_goals rename_i ht
    all_goals try (simp only [Value.okWide, ht, Cell.okWide] at hv; simp only [ht])
    · exact sc fun cs e => by subst e; simp [Cell.ok, ht] at hv
    · exact sc fun cs e => by subst e; simp [Cell.ok, ht] at hv
    · exact sc fun cs e => by subst e; simp [Cell.ok, ht] at hv
    · exact sc fun cs e => by subst e; simp [Cell.ok, ht] at hv
    · obtain ⟨cs, hcs, _⟩ := hv; exact agg cs hcs
    · obtain ⟨cs, hcs, _⟩ := hv; exact agg cs hcs
    · cases hk

theorem open_args {k base : Nat} : ∀ {ts : List TypeId} {vs : List Value} {ds : List (DataW H)} {ps : List MemPlace}, ts.all (okT P k) = true →
    (∀ (j : Nat) t v, ts[j]? = some t → vs[j]? = some v → Value.okWide P w .any base t v) → DataW.TrodAll enc P w 0 (fun _ => true) true ts vs ds ps →
    ∃ xs, TyArgs P k ts xs ∧ RPs w (fun b => b < w.heap.size) (fun _ => 0) 0 (pvsOf P ts xs) vs ∧ bkX xs ≤ dwL ds
  | [], [], [], _, _, _, _ => ⟨[], rfl, by simp [pvsOf, RPs], by simp [bkX]⟩
  | t :: ts, v :: vs, d :: ds, ps, hk, hv, h => by
    simp only [DataW.TrodAll] at h
    obtain ⟨p, q, h1, h2, _⟩ := h
    simp only [List.all_cons, Bool.and_eq_true] at hk
    obtain ⟨x, x1, x2, x3⟩ := open_arg hk.1 (.inr ⟨base, hv 0 t v rfl rfl⟩) h1
    obtain ⟨xs, y1, y2, y3⟩ := open_args hk.2 (fun j t v ht hv' => hv (j + 1) t v (by simpa using ht) (by simpa using hv')) h2
    exact ⟨x :: xs, ⟨x, xs, rfl, x1, y1⟩, by simp only [pvsOf, RPs]; exact ⟨_, _, rfl, x2, y2⟩, by simp only [bkX, dwL]; omega⟩
  | [], [], _ :: _, _, _, _, h => by simp [DataW.TrodAll] at h
  | [], _ :: _, _, _, _, _, h => by simp [DataW.TrodAll] at h
  | _ :: _, [], _, _, _, _, h => by simp [DataW.TrodAll] at h
  | _ :: _, _ :: _, [], _, _, _, h => by simp [DataW.TrodAll] at h

theorem trodAll_below (hl : laidOutB P = true) {W' : World} (hb : Go.RowKit.Below w.heap.size w W') : ∀ {ts : List TypeId} {vs : List Value} {ds : List (DataW H)} {ps : List MemPlace},
    ts.all (fun t => P.readableRec t && decide (t < P.types.size)) = true → DataW.TrodAll enc P w 0 (fun _ => true) true ts vs ds ps →
    DataW.TrodAll enc P W' 0 (fun b => decide (b < w.heap.size)) true ts vs ds ps
  | [], [], [], _, _, h => h
  | t :: ts, v :: vs, d :: ds, ps, hk, h => by
    simp only [DataW.TrodAll] at h ⊢
    obtain ⟨p, q, h1, h2, he⟩ := h
    simp only [List.all_cons, Bool.and_eq_true, decide_eq_true_eq] at hk
    refine ⟨p, q, Go.RowKit.Below.trod hl hk.1.1 hk.1.2 h1 hb ?_, trodAll_below hl hb hk.2 h2, he⟩
    obtain ⟨m, hm⟩ := h1
    exact DataW.trod_lt m _ _ _ hm
  | [], [], _ :: _, _, _, h => by simp [DataW.TrodAll] at h
  | [], _ :: _, _, _, _, h => by simp [DataW.TrodAll] at h
  | _ :: _, [], _, _, _, h => by simp [DataW.TrodAll] at h
  | _ :: _, _ :: _, [], _, _, h => by simp [DataW.TrodAll] at h
end

open Go.ChangeShapes Go.WideShapes Go.ChangeAt Go.RowKit

theorem trodAll_len {H : Type} {enc : TypeId × Value → H} {P : Program} {w : World} {b : Nat} {sp : Nat → Bool} {hd : Bool} : ∀ {ts : List TypeId} {vs : List Value} {ds : List (DataW H)} {ps : List MemPlace}, DataW.TrodAll enc P w b sp hd ts vs ds ps → ds.length = ts.length
  | [], [], [], _, _ => rfl
  | t :: ts, v :: vs, d :: ds, ps, h => by
    simp only [DataW.TrodAll] at h
    obtain ⟨p, q, h1, h2, he⟩ := h
    simp [trodAll_len h2]
  | [], [], _ :: _, _, h => by simp [DataW.TrodAll] at h
  | [], _ :: _, _, _, h => by simp [DataW.TrodAll] at h
  | _ :: _, [], _, _, h => by simp [DataW.TrodAll] at h
  | _ :: _, _ :: _, [], _, h => by simp [DataW.TrodAll] at h

/-- A law's contract, of its pure answer. -/
theorem law_contract {H : Type} {enc : TypeId × Value → H} {P : Program} {f : FuncId} {fn : Func} {s : ChangeSpec} (k tb : Nat) (hv : s.vars = []) (hl : laidOutB P = true)
    (hts : fn.params.toList.all (okT P k) = true) (hrr : fn.params.toList.all (fun t => P.readableRec t && decide (t < P.types.size)) = true)
    (hres : fn.resultTypes = #[tb]) (htb : P.underlying tb = some .bool)
    (hs : ∀ ds : List (DataW H), ds.length = fn.params.size → s.fn H ds = { results := [.lit (.bool true)], args := ds })
    (pure : ∀ xs, TyArgs P k fn.params.toList xs → bkX xs ≤ 1048576 → FunJ P f (pvsOf P fn.params.toList xs) [] (.v 0 (.d (.bool true))) [])
    {W : World} {base : Nat} {args : Array Value} {ds gs : List (DataW H)} {before : List MemPlace}
    (hval : ∀ (j : Nat) t v, fn.params[j]? = some t → args[j]? = some v → Value.okWide P W .any base t v)
    (hW : DataW.Whole enc P fn.params.toList s.vars false W args.toList ds gs before) (hb : dwL (ds ++ gs) ≤ 1048576) :
    Calls P f args W fun e W' => ∃ v, e = .returned v ∧ s.post enc P fn false true false false W args v W' := by
  have hW' := hW
  obtain ⟨p, q, hA, hV, rfl, hfz, hnd⟩ := hW
  rw [hv] at hV
  obtain ⟨rfl, rfl⟩ := trodVars_none hV
  rw [List.append_nil] at hb
  obtain ⟨xs, x1, x2, x3⟩ := open_args (base := base) hts (fun j t v ht hv => hval j t v (by simpa using ht) (by simpa using hv)) hA
  have := FunJ.law (pure xs x1 (by omega)) x2
  refine this.mono fun e W' ⟨he, bel⟩ => ?_
  subst he
  have hlen : ds.length = fn.params.size := by rw [trodAll_len hA]; simp
  refine ⟨_, rfl, ds, [], _, [], p, [], hW', ?_, ?_, ?_, bel.frame _, fun h => by cases h⟩
  · rw [List.append_nil, hs ds hlen, hres]
    exact trodAll_mk1 (shut_bool htb _)
  · rw [List.append_nil, hs ds hlen]
    exact trodAll_below hl bel hrr hA
  · rw [List.append_nil, hs ds hlen, hv]
    rfl


/-! Typed arguments. -/
theorem TyD.int {P : Program} {t : TypeId} {kd : IntKind} (ht : P.underlying t = some (.int kd)) : ∀ (k : Nat) {ds : List D}, TyD P k t ds → ∃ n, ds = EI kd n ∧ kd.min ≤ n ∧ n ≤ kd.max
  | 0, _, h => h.elim
  | k + 1, ds, h => by
    simp only [TyD, ht] at h
    obtain ⟨n, rfl, hw⟩ := h
    simp only [Lit.wf, Bool.and_eq_true, decide_eq_true_eq] at hw
    exact ⟨n, rfl, hw⟩
theorem TyD.bool {P : Program} {t : TypeId} (ht : P.underlying t = some .bool) : ∀ (k : Nat) {ds : List D}, TyD P k t ds → ∃ b, ds = EB b ∧ True
  | 0, _, h => h.elim
  | k + 1, ds, h => by
    simp only [TyD, ht] at h
    obtain ⟨n, rfl⟩ := h
    exact ⟨n, rfl, trivial⟩
theorem TyD.str {P : Program} {t : TypeId} (ht : P.underlying t = some .string) : ∀ (k : Nat) {ds : List D}, TyD P k t ds → ∃ s, ds = ES s ∧ True
  | 0, _, h => h.elim
  | k + 1, ds, h => by
    simp only [TyD, ht] at h
    obtain ⟨n, rfl, _⟩ := h
    exact ⟨n, rfl, trivial⟩
theorem rows_of {α : Type} {E : α → List D} {W : α → Prop} : ∀ {xs : List (List D)}, (∀ x ∈ xs, ∃ y, x = E y ∧ W y) → ∃ ys, xs = List.map E ys ∧ ∀ y ∈ ys, W y
  | [], _ => ⟨[], rfl, by simp⟩
  | x :: xs, h => by
    obtain ⟨y, rfl, hy⟩ := h x (by simp)
    obtain ⟨ys, rfl, hs⟩ := rows_of (xs := xs) (E := E) (W := W) fun x hx => h x (by simp [hx])
    exact ⟨y :: ys, rfl, by simp; exact ⟨hy, hs⟩⟩
theorem TyD.slice {α : Type} {P : Program} {t e : TypeId} {s : Nat} {E : α → List D} {W : α → Prop} (ht : P.underlying t = some (.slice e)) (hs : P.cellsOf e = s)
    (he : ∀ (k : Nat) {ds : List D}, TyD P k e ds → ∃ y, ds = E y ∧ W y) : ∀ (k : Nat) {ds : List D}, TyD P k t ds → ∃ ys : List α, ds = EL s E ys ∧ ∀ y ∈ ys, W y
  | 0, _, h => h.elim
  | k + 1, ds, h => by
    simp only [TyD, ht] at h
    obtain ⟨xs, rfl, hx⟩ := h
    obtain ⟨ys, rfl, hy⟩ := rows_of fun x hx' => he k (hx x hx')
    exact ⟨ys, by rw [hs]; rfl, hy⟩
theorem TyD.struct {P : Program} {t : TypeId} {fs : Array Field} {ts : List TypeId} (ht : P.underlying t = some (.struct fs)) (hf : fs.toList.map (·.type) = ts) : ∀ (k : Nat) {ds : List D}, TyD P k t ds → ∃ k, TyAll (TyD P k) ts ds
  | 0, _, h => h.elim
  | k + 1, ds, h => by
    simp only [TyD, ht, hf] at h
    exact ⟨k, h⟩
theorem TyD.array {P : Program} {t e : TypeId} {n : Nat} (ht : P.underlying t = some (.array n e)) : ∀ (k : Nat) {ds : List D}, TyD P k t ds → ∃ k, TyAll (TyD P k) (List.replicate n e) ds
  | 0, _, h => h.elim
  | k + 1, ds, h => by
    simp only [TyD, ht] at h
    exact ⟨k, h⟩
theorem bkX_EI (k : IntKind) : ∀ l : List Int, bkX (List.map (EI k) l) = l.length
  | [] => rfl
  | x :: l => by simp [bkX, bkX_EI k l, EI, bkL, bk]; omega
theorem bkX_len {α : Type} {E : α → List D} (hE : ∀ y, 1 ≤ bkL (E y)) : ∀ l : List α, l.length ≤ bkX (List.map E l)
  | [] => Nat.zero_le _
  | x :: l => by have := hE x; have := bkX_len hE l; simp only [List.map_cons, bkX, List.length_cons]; omega

end Go.Ev
