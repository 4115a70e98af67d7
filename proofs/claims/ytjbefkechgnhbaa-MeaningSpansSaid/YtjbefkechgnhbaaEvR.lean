/- The engine's part EvR: what a function's code does, told of values; no program in sight. Conditions: none. -/
import Derived.Test.YtjbefkechgnhbaaEvT
import Derived.KernelRfl
import Derived.ChangeSlices
import Derived.ChangeArms
import Derived.OpenShut
import Derived.Carry
import Derived.ChangeSame
import Derived.JoinedCond
import Derived.WalkKit
import Derived.ProofKit
import Derived.ShutString
import Derived.ChangeOld
import Derived.SizedLaws
set_option linter.unusedVariables false
set_option linter.unusedSimpArgs false
namespace Go.Ev

def bodyOf (f : Func) : Code := f.body.getD .skip
def nav : List Item → List Nat → List Item
 | t, [] => t
 | .code (.seq x y) :: k, 0 :: r => nav (.code x :: .code y :: k) r
 | .code (.seq _ y) :: k, 1 :: r => nav (.code y :: k) r
 | .code (.cond _ x _) :: k, 0 :: r => nav (.code x :: k) r
 | .code (.cond _ _ y) :: k, 1 :: r => nav (.code y :: k) r
 | .code (.block id c) :: k, 0 :: r => nav (.code c :: .inBlock id :: k) r
 | .code (.scope c) :: k, 0 :: r => nav (.code c :: .inScope c :: k) r
 | .code (.loop c) :: k, 0 :: r => nav (.code c :: .inLoop c :: k) r
 | _ :: k, _ :: r => nav k r
 | [], _ => []
def EI (k : IntKind) (n : Int) : List D := [.int k n]
def EB (b : Bool) : List D := [.bool b]
def ES (s : ByteArray) : List D := [.str s]
def EL {α : Type} (s : Nat) (e : α → List D) (xs : List α) : List D := [.sl s (xs.map e)]
def at? {α : Type} (xs : List α) (i : Int) : Option α := if 0 ≤ i then xs[i.toNat]? else none
def req {α : Type} (p : Prop) [Decidable p] (k : Option α) : Option α := if p then k else none
def br {α : Type} (b : Bool) (x y : Option α) : Option α := match b with
 | true => x
 | false => y
def bnd {α β : Type} (o : Option α) (k : α → Option β) : Option β := o.bind k
theorem at_nn {α : Type} {xs : List α} {i : Int} {x : α} (h : at? xs i = some x) : 0 ≤ i := by
 unfold at? at h; split at h
 ·assumption
 ·cases h
theorem at_get {α : Type} {xs : List α} {i : Int} {x : α} (h : at? xs i = some x) : xs[i.toNat]? = some x := by
 unfold at? at h; split at h
 ·exact h
 ·cases h
theorem at_map {α : Type} {xs : List α} {i : Int} {x : α} (e : α → List D) (h : at? xs i = some x) : (xs.map e)[i.toNat]? = some (e x) := by
 rw [List.getElem?_map, at_get h]; rfl
theorem at_lt {α : Type} {xs : List α} {i : Int} {x : α} (e : α → List D) (h : at? xs i = some x) : i < ((xs.map e).length : Nat) := by
 have := lt_of_get (at_get h)
 have := at_nn h
 simp; omega
theorem req_some {α : Type} {p : Prop} [Decidable p] {k : Option α} {r : α} (h : req p k = some r) : p ∧ k = some r := by
 unfold req at h; split at h
 ·exact ⟨by assumption, h⟩
 ·cases h
theorem br_some {α : Type} {b : Bool} {x y : Option α} {r : α} (h : br b x y = some r) : (b = true ∧ x = some r) ∨ (b = false ∧ y = some r) := by
 cases b
 ·exact .inr ⟨rfl, h⟩
 ·exact .inl ⟨rfl, h⟩
theorem bnd_some {α β : Type} {o : Option α} {k : α → Option β} {r : β} (h : bnd o k = some r) : ∃ x, o = some x ∧ k x = some r := by
 unfold bnd at h
 cases o with
 | none => cases h
 | some x => exact ⟨x, rfl, h⟩
def cut {α : Type} (xs : List α) (lo hi : Option Int) : List α :=
 match lo, hi with
 | none, none => xs
 | none, some b => xs.take b.toNat
 | some a, none => xs.drop a.toNat
 | some a, some b => (xs.take b.toNat).drop a.toNat
def cutOk (n : Nat) (lo hi : Option Int) : Prop :=
 match lo, hi with
 | none, none => True
 | none, some b => 0 ≤ b ∧ b ≤ n
 | some a, none => 0 ≤ a ∧ a ≤ n
 | some a, some b => 0 ≤ a ∧ a ≤ b ∧ b ≤ n
instance (n : Nat) (lo hi : Option Int) : Decidable (cutOk n lo hi) := by unfold cutOk; split <;> infer_instance
def fits (n by' : Nat) : Prop := n ≤ 9223372036854775807 ∧ n * by' ≤ 140737488355328
instance (n m : Nat) : Decidable (fits n m) := by unfold fits; infer_instance
theorem fits1 {α β : Type} {xs : List α} {ys : List β} {m : Nat} {e : α → List D} {e' : β → List D} (h : fits (xs.length + ys.length) m) : (xs.map e).length + (ys.map e').length ≤ 9223372036854775807 := by simpa using h.1
theorem fits2 {α β : Type} {xs : List α} {ys : List β} {m : Nat} {e : α → List D} {e' : β → List D} (h : fits (xs.length + ys.length) m) : ((xs.map e).length + (ys.map e').length) * m ≤ 140737488355328 := by simpa using h.2
theorem set_map {α : Type} (e : α → List D) (xs : List α) (i : Nat) (v : α) : (xs.map e).set i (e v) = (xs.set i v).map e := by rw [List.map_set]
theorem app_map {α : Type} (e : α → List D) (xs ys : List α) : xs.map e ++ ys.map e = (xs ++ ys).map e := by simp
theorem len_eq {α : Type} (e : α → List D) (xs : List α) : (It.v 0 (.d (.int .i64 ((xs.map e).length : Nat)))) = .v 0 (.d (.int .i64 ((xs.length : Nat) : Int))) := by rw [List.length_map]
def DE (st : St) (its : List (Option (Nat × It))) (i : Nat) : Prop := ({ st with env := ent its i ++ st.env } : St) = { st with env := ent its i ++ st.env }
def stageAt (Ss : List (Env × Objs × Ext)) (s : Nat) : Env × Objs × Ext := Ss.getD s ([], [], .none)
def DM (st : St) (its : List (Option (Nat × It))) (Ss : List (Env × Objs × Ext)) (k i s : Nat) : Prop := ({ st with env := ent its i ++ (stageAt Ss s).1, objs := (stageAt Ss s).2.1, ext := (stageAt Ss s).2.2 } : St) = { st with env := ent its i ++ (stageAt Ss s).1, objs := (stageAt Ss s).2.1, ext := (stageAt Ss s).2.2 }
def mkFits (l c : Int) (b : Nat) : Prop := 0 ≤ l ∧ l ≤ c ∧ (b : Int) * c ≤ 281474976710656 ∧ c ≤ 9223372036854775807
instance {l c : Int} {b : Nat} : Decidable (mkFits l c b) := by unfold mkFits; infer_instance
theorem rep_map {α : Type} (e : α → List D) (n : Nat) (z : α) : List.replicate n (e z) = List.map e (List.replicate n z) := by simp
def alt {α β γ : Type} (o : α ⊕ β) (f : α → Option γ) (g : β → Option γ) : Option γ := match o with
 | .inl x => f x
 | .inr y => g y
theorem alt_some {α β γ : Type} {o : α ⊕ β} {f : α → Option γ} {g : β → Option γ} {r : γ} (h : alt o f g = some r) : (∃ x, o = .inl x ∧ f x = some r) ∨ (∃ y, o = .inr y ∧ g y = some r) := by
 cases o with
 | inl x => exact .inl ⟨x, rfl, h⟩
 | inr y => exact .inr ⟨y, rfl, h⟩
def zeroB (P : Program) (t : TypeId) (ps : List PV) : Bool := match P.info? t with
 | some inf => match inf.zero with
  | some z => zok z.cells.toList ps
  | none => false
 | none => false
theorem ZeroOK.of {P : Program} {t : TypeId} {ps : List PV} (h : zeroB P t ps = true) : ZeroOK P t ps := by
 unfold zeroB at h
 split at h
 ·rename_i inf hi
  split at h
  ·rename_i z hz
   exact ⟨inf, z, hi, hz, h⟩
  ·cases h
 ·cases h
theorem AN : AllP [] := trivial
theorem AC {p : Prop} {ps : List Prop} (h : p) (h' : AllP ps) : AllP (p :: ps) := ⟨h, h'⟩
theorem AA : ∀ {ps qs : List Prop} (h : AllP ps) (h' : AllP qs), AllP (ps ++ qs)
 | [], _, _, h' => h'
 | _ :: _, _, h, h' => ⟨h.1, AA h.2 h'⟩
def DEs (st : St) (its : List (Option (Nat × It))) (l : List Nat) : List Prop := l.map (DE st its)
def DMs (st : St) (its : List (Option (Nat × It))) (Ss : List (Env × Objs × Ext)) (l : List (Nat × Nat × Nat)) : List Prop := l.map fun e => DM st its Ss e.1 e.2.1 e.2.2
theorem AMs (st : St) (its : List (Option (Nat × It))) (Ss : List (Env × Objs × Ext)) : ∀ l, AllP (DMs st its Ss l)
 | [] => trivial
 | _ :: l => ⟨rfl, AMs st its Ss l⟩
theorem AEs (st : St) (its : List (Option (Nat × It))) : ∀ l, AllP (DEs st its l)
 | [] => trivial
 | _ :: l => ⟨rfl, AEs st its l⟩
def SZ (Ss : List (Env × Objs × Ext)) (st : St) : Prop := Ss[0]? = some (st.env, st.objs, st.ext)
def SK (Ss : List (Env × Objs × Ext)) (i j : Nat) : Prop := stageAt Ss i = stageAt Ss j
abbrev nv (f : Func) (p : List Nat) : List Item := norm (nav [.code (bodyOf f)] p)
abbrev iI (n : Int) : It := .v 0 (.d (.int .i64 n))
abbrev iB (b : Bool) : It := .v 0 (.d (.bool b))
abbrev iS {α : Type} (m s : Nat) (e : α → List D) (xs : List α) : It := .v m (.d (.sl s (List.map e xs)))
abbrev iP (o k : Nat) : It := .v 0 (.ptr o k)
abbrev dI (n : Int) : PV := .d (.int .i64 n)
abbrev dB (b : Bool) : PV := .d (.bool b)
abbrev dS {α : Type} (s : Nat) (e : α → List D) (xs : List α) : PV := .d (.sl s (List.map e xs))
abbrev sM {α : Type} (s : Nat) (e : α → List D) (xs : List α) : D := .sl s (List.map e xs)
section
variable {P : Program} {N : Nat} {B : Frame → Prop}
theorem Reach.trans {todo todo1 : List Item} {st st1 : St} {out : Out} (h : Reach P N todo st (.at todo1 st1) B) (h' : Reach P N todo1 st1 out B) (hm : Nat.ble st.objs.length st1.objs.length = true) : Reach P N todo st out B := by
 intro w ow φ ts hr g
 have hm := Nat.le_of_ble_eq_true hm
 obtain ⟨w1, ow1, φ1, ts1, k1, ms1, r1, m1, p1, n1, t1, s1⟩ := h w ow φ ts hr g
 have t1 : k1 = todo1 := t1
 subst t1
 obtain ⟨w2, ow2, φ2, ts2, k2, ms2, r2, m2, p2, n2, t2, s2⟩ := h' w1 ow1 φ1 ts1 r1 g
 exact ⟨w2, ow2, φ2, ts2, k2, ms2 ++ ms1, r2, m1.trans m2, fun i hi hi2 => by rw [p2 i (by omega) hi2, p1 i hi (by show i < st1.objs.length; omega)], n1.append m2 n2 m1.size, t2, fun b hb hB df cs => by rw [dfOf_append]; exact (s1 b hb hB df cs).trans (s2 b hb hB (dfOf ms1 ++ df) cs)⟩
theorem Reach.retold {todo : List Item} {st st1 st2 : St} {obs : List Prop} {orc : List Orc} (h1 : Reach P N todo st (.ret st1) B) (hl : st.objs.length ≤ st1.objs.length) (h : evConvs st1 orc = some (st2, obs)) (ho : AllP obs) : Reach P N todo st (.ret st2) B := by
 intro w ow φ ts hr g
 obtain ⟨w1, ow1, φ1, ts1, k1, ms1, r1, m1, p1, n1, t1, s1⟩ := h1 w ow φ ts hr g
 obtain ⟨ow2, φ2, r2, m2, p2, n2, k2⟩ := evConvs_sound h ho N w1 ow1 φ1 ts1 r1
 exact ⟨w1, ow2, φ2, ts1, k1, ms1, r2, m1.trans m2, fun i hi hi2 => by rw [p2 i (Nat.lt_of_lt_of_le hi hl), p1 i hi (Nat.lt_of_lt_of_le hi hl)], n1.mods m2, t1, s1⟩
theorem Reach.retfew {todo : List Item} {st st1 : St} (m : Nat) (h1 : Reach P N todo st (.ret st1) B) (hf : fewB st1 m = true) : Reach P N todo st (.ret { st1 with objs := st1.objs.take m }) B := by
 intro w ow φ ts hr g
 obtain ⟨w1, ow1, φ1, ts1, k1, ms1, r1, m1, p1, n1, t1, s1⟩ := h1 w ow φ ts hr g
 exact ⟨w1, ow1, φ1, ts1, k1, ms1, Rel.fewer hf r1, m1, fun i hi hi2 => p1 i hi (by
  have : i < (st1.objs.take m).length := hi2
  rw [List.length_take] at this
  show i < st1.objs.length; omega), n1, t1, s1⟩
theorem FunJ.of' {f : FuncId} {fn : Func} {body : Code} {args : List PV} {oc oc' : Objs} {res : It} {rs : List Nat} (m : Nat) (hf : P.funcs[f]? = some fn) (hb : fn.body = some body) (hname : (fn.name == "runtime.NumGoroutine") = false) (hN : fn.ntmps = N) (hle : args.length ≤ N)
  (h : ∃ st', Reach P N [.code body] (st0 args oc) (.ret st') ∧ ResOK P N fn st' rs res ∧ st'.marks = [] ∧ Nat.ble m st'.objs.length = true ∧ st'.objs.take m = oc') (hm : Nat.ble oc.length m = true) (hr : resFew m res = true) (ho : oc'.all (oknC m) = true) : FunJ P f args oc res oc' := by
 obtain ⟨st', h1, h2, h3, h4, rfl⟩ := h
 have h4 := Nat.le_of_ble_eq_true h4
 have hm := Nat.le_of_ble_eq_true hm
 exact FunJ.fewer m (FunJ.of hf hb hname hN hle h1 (Nat.le_trans hm h4) h3 h2) hm h4 hr ho
theorem FunJ.of2' {f : FuncId} {fn : Func} {body : Code} {args : List PV} {oc oc' : Objs} {res : It} {ci cj : Nat} (m : Nat) (hf : P.funcs[f]? = some fn) (hb : fn.body = some body) (hname : (fn.name == "runtime.NumGoroutine") = false) (hN : fn.ntmps = N) (hle : args.length ≤ N)
  (h : ∃ st', Reach P N [.code body] (st0 args oc) (.ret st') ∧ ResOK2 P N fn st' [] ci cj res ∧ st'.marks = [] ∧ Nat.ble m st'.objs.length = true ∧ st'.objs.take m = oc') (hm : Nat.ble oc.length m = true) (hci : Nat.ble m ci = true) (hr : resFew m res = true) (ho : oc'.all (oknC m) = true) : FunJ P f args oc res oc' := by
 obtain ⟨st', h1, h2, h3, h4, rfl⟩ := h
 have h4 := Nat.le_of_ble_eq_true h4
 have hm := Nat.le_of_ble_eq_true hm
 exact FunJ.of2 m hf hb hname hN hle h1 (Nat.le_trans hm h4) h3 hm h4 (Nat.le_of_ble_eq_true hci) h2 hr ho
theorem ev {T : Tab} {todo : List Item} {st : St} {out : Out} (orc : List Orc) {obs : List Prop} (hP : POK P T) (h : evRun P T N 400 todo st orc = some (out, obs, [])) (ho : AllP obs) : Reach P N todo st out B := evRun_sound hP h ho
theorem Reach.told {todo : List Item} {st st1 : St} {obs : List Prop} {orc : List Orc} (h : evConvs st orc = some (st1, obs)) (ho : AllP obs) : Reach P N todo st (.at todo st1) B :=
 Reach.conv (evConvs_sound h ho) fun w ow φ ts hr g => ⟨w, ow, φ, ts, todo, [], hr, Mods.refl _ _, fun _ _ _ => rfl, Marks.nil, rfl, fun _ _ _ _ _ => .refl _ _⟩
end


theorem lt_of_cell {w : World} {a : Addr} {v : Value} (h : w.cell? a = some v) : a.block < w.heap.size := by
 unfold World.cell? at h
 split at h
 ·rename_i c e f hc
  rcases Nat.lt_or_ge a.block w.heap.size with h' | h'
  ·exact h'
  ·rw [Array.getElem?_eq_none h'] at hc; cases hc
 ·cases h
theorem FunJ.law {P : Program} {f : FuncId} {args : List PV} (h : FunJ P f args [] (.v 0 (.d (.bool true))) []) {w : World} {vs : List Value} (hv : RPs w (fun b => b < w.heap.size) (fun _ => 0) 0 args vs) :
  Calls P f vs.toArray w fun e w' => e = .returned (.bool true) ∧ Go.RowKit.Below w.heap.size w w' := by
 refine (FunJ.calls h hv).mono fun e w' he => ?_
 obtain ⟨⟨v, rfl, Z, φ, n, hp⟩, hb⟩ := he
 simp only [RP, RD] at hp
 rw [hp.1]
 exact ⟨rfl, hb⟩


def TyAll {α : Type} (R : α → List D → Prop) : List α → List D → Prop
 | [], ds => ds = []
 | t :: ts, ds => ∃ a b, ds = a ++ b ∧ R t a ∧ TyAll R ts b
def TyD (P : Program) : Nat → TypeId → List D → Prop
 | 0, _, _ => False
 | f + 1, t, ds => match P.underlying t with
  | some (.int k) => ∃ n, ds = [.int k n] ∧ (Lit.int k n).wf = true
  | some .bool => ∃ b, ds = [.bool b]
  | some .string => ∃ s : ByteArray, ds = [.str s] ∧ s.size ≤ maxLen
  | some (.slice e) => ∃ xs, ds = [.sl (P.cellsOf e) xs] ∧ ∀ x ∈ xs, TyD P f e x
  | some (.struct fs) => TyAll (TyD P f) (fs.toList.map (·.type)) ds
  | some (.array n e) => TyAll (TyD P f) (List.replicate n e) ds
  | _ => False
def okFs (ok : TypeId → Bool) (sz : TypeId → Nat) (n : Nat) : Nat → List Field → Bool
 | off, [] => off == n
 | off, f :: fs => f.offset == off && ok f.type && okFs ok sz n (off + sz f.type) fs
def okT (P : Program) : Nat → TypeId → Bool
 | 0, _ => false
 | f + 1, t => match P.underlying t with
  | some (.int _) => true
  | some .bool => true
  | some .string => true
  | some (.slice e) => decide (1 ≤ P.cellsOf e) && okT P f e
  | some (.struct fs) => okFs (okT P f) P.cellsOf (P.cellsOf t) 0 fs.toList
  | some (.array n e) => P.cellsOf t == n * P.cellsOf e && okT P f e
  | _ => false
mutual
def bk : D → Nat
 | .int _ _ => 1
 | .bool _ => 1
 | .str s => s.size + 1
 | .sl _ xs => bkX xs + 1
 | .any => 1
 | .nl _ => 1
def bkL : List D → Nat
 | [] => 0
 | d :: ds => bk d + bkL ds
def bkX : List (List D) → Nat
 | [] => 0
 | x :: xs => bkL x + bkX xs
end
theorem bkL_append : ∀ a b : List D, bkL (a ++ b) = bkL a + bkL b
 | [], b => by simp [bkL]
 | x :: a, b => by simp only [List.cons_append, bkL, bkL_append a b]; omega
mutual
def dw {H : Type} : DataW H → Nat
 | .lit (.string b) => b.length + 1
 | .lit _ => 1
 | .slice es sp => dwL es + dwL sp + 1
 | .agg ps => dwL ps + 1
 | .ptr d => dw d + 1
 | _ => 1
def dwL {H : Type} : List (DataW H) → Nat
 | [] => 0
 | d :: ds => dw d + dwL ds
end
def RL (w : World) (Z : Nat → Prop) : List D → List Value → Prop
 | [], [] => True
 | d :: ds, v :: vs => RD w Z 0 d v [] ∧ RL w Z ds vs
 | _, _ => False
theorem RL.length {w : World} {Z : Nat → Prop} : ∀ {ds : List D} {vs : List Value}, RL w Z ds vs → ds.length = vs.length
 | [], [], _ => rfl
 | d :: ds, v :: vs, h => by simp only [RL] at h; simp [h.2.length]
 | [], _ :: _, h => by simp [RL] at h
 | _ :: _, [], h => by simp [RL] at h
theorem RL.append {w : World} {Z : Nat → Prop} : ∀ {a b : List D} {x y : List Value}, RL w Z a x → RL w Z b y → RL w Z (a ++ b) (x ++ y)
 | [], _, [], _, _, h => h
 | d :: ds, _, v :: vs, _, h, h2 => by simp only [RL] at h; exact ⟨h.1, h.2.append h2⟩
 | [], _, _ :: _, _, h, _ => by simp [RL] at h
 | _ :: _, _, [], _, h, _ => by simp [RL] at h
theorem RL.rc {w : World} {Z : Nat → Prop} {g : Nat → Option Value} : ∀ {ds : List D} {vs : List Value} {off : Nat}, RL w Z ds vs → (∀ i v, vs[i]? = some v → g (off + i) = some v) → RC w Z 0 ds g off []
 | [], [], _, _, _ => by simp [RC]
 | d :: ds, v :: vs, off, h, hg => by
  simp only [RL] at h
  simp only [RC]
  exact ⟨v, [], [], by simpa using hg 0 v rfl, rfl, h.1, h.2.rc fun i u hu => by have := hg (i + 1) u (by simpa using hu); rwa [show off + (i + 1) = off + 1 + i by omega] at this⟩
 | [], _ :: _, _, h, _ => by simp [RL] at h
 | _ :: _, [], _, h, _ => by simp [RL] at h
theorem spot_of_cell {w : World} {a : Addr} {v : Value} (h : w.cell? a = some v) : a.spot = none := by
 unfold World.cell? at h
 split at h
 ·cases ha : a.spot with
  | none => rfl
  | some s => rw [ha] at h; simp at h
 ·cases h
section
variable {H : Type} {enc : TypeId × Value → H} {P : Program} {w : World}
def Opens (enc : TypeId × Value → H) (P : Program) (w : World) (k : Nat) : Prop := ∀ (t : TypeId) (fuel : Nat) (cs : List Value) (x : DataW H × List MemPlace),
 okT P k t = true → DataW.trod enc P w 0 (fun _ => true) true fuel t cs = some x → ∃ ds, TyD P k t ds ∧ RL w (fun b => b < w.heap.size) ds cs ∧ bkL ds ≤ dw x.1
theorem opens_fields {k : Nat} (ih : Opens enc P w k) {fuel : Nat} {cs : List Value} : ∀ (fs : List Field) (off : Nat) (xs : List (DataW H × List MemPlace)),
  okFs (okT P k) P.cellsOf cs.length off fs = true → xs.length = fs.length →
  (∀ (i : Nat) (f : Field), fs[i]? = some f → DataW.trod enc P w 0 (fun _ => true) true fuel f.type ((cs.drop f.offset).take (P.cellsOf f.type)) = xs[i]?) →
  ∃ ds, TyAll (TyD P k) (fs.map (·.type)) ds ∧ RL w (fun b => b < w.heap.size) ds (cs.drop off) ∧ bkL ds ≤ dwL (xs.map (·.1))
 | [], off, xs, hok, hl, h => by
  simp only [okFs, beq_iff_eq] at hok
  subst hok
  exact ⟨[], rfl, by simp [RL], by simp [bkL]⟩
 | f :: fs, off, [], hok, hl, h => by simp at hl
 | f :: fs, off, x :: xs, hok, hl, h => by
  simp only [okFs, Bool.and_eq_true, beq_iff_eq] at hok
  obtain ⟨⟨ho, hk⟩, hr⟩ := hok
  obtain ⟨ds, d1, d2, d3⟩ := ih _ _ _ _ hk (h 0 f rfl)
  obtain ⟨es, e1, e2, e3⟩ := opens_fields ih fs _ xs hr (by simpa using hl) fun i g hg => by simpa using h (i + 1) g (by simpa using hg)
  refine ⟨ds ++ es, ⟨ds, es, rfl, d1, e1⟩, ?_, ?_⟩
  ·have := d2.append e2
   rwa [ho, ← List.drop_drop, List.take_append_drop] at this
  ·rw [bkL_append]; simp only [List.map_cons, dwL]; omega
theorem opens_array {k n : Nat} (ih : Opens enc P w k) {fuel e : Nat} (he : okT P k e = true) {cs : List Value} (hc : cs.length = n * P.cellsOf e) : ∀ (m i : Nat) (xs : List (DataW H × List MemPlace)),
  m + i = n → xs.length = m →
  (∀ j, j < m → DataW.trod enc P w 0 (fun _ => true) true fuel e ((cs.drop ((i + j) * P.cellsOf e)).take (P.cellsOf e)) = xs[j]?) →
  ∃ ds, TyAll (TyD P k) (List.replicate m e) ds ∧ RL w (fun b => b < w.heap.size) ds (cs.drop (i * P.cellsOf e)) ∧ bkL ds ≤ dwL (xs.map (·.1))
 | 0, i, xs, hi, hl, h => by
  obtain rfl : i = n := by omega
  refine ⟨[], rfl, ?_, by simp [bkL]⟩
  rw [← hc, List.drop_length]; trivial
 | m + 1, i, [], hi, hl, h => by simp at hl
 | m + 1, i, x :: xs, hi, hl, h => by
  obtain ⟨ds, d1, d2, d3⟩ := ih _ _ _ _ he (h 0 (by omega))
  obtain ⟨es, e1, e2, e3⟩ := opens_array ih he hc m (i + 1) xs (by omega) (by simpa using hl) fun j hj => by
   have := h (j + 1) (by omega)
   rw [show i + (j + 1) = i + 1 + j by omega] at this
   simpa using this
  refine ⟨ds ++ es, ⟨ds, es, rfl, d1, e1⟩, ?_, ?_⟩
  ·have := d2.append e2
   rwa [Nat.add_zero, Nat.add_mul, Nat.one_mul, ← List.drop_drop, List.take_append_drop] at this
  ·rw [bkL_append]; simp only [List.map_cons, dwL]; omega
theorem opens_slice {k : Nat} (ih : Opens enc P w k) {fuel e : Nat} (he : okT P k e = true) {a : Addr} : ∀ (m i : Nat) (xs : List (DataW H × List MemPlace)), xs.length = m →
  (∀ j, j < m → (w.cells? 0 (a.add ((i + j) * P.cellsOf e)) (P.cellsOf e)).bind (DataW.trod enc P w 0 (fun _ => true) true fuel e) = xs[j]?) →
  ∃ rows : List (List D), rows.length = m ∧ (∀ x ∈ rows, TyD P k e x) ∧
   (∀ j x, rows[j]? = some x → ∃ cs, w.cells? 0 (a.add ((i + j) * P.cellsOf e)) (P.cellsOf e) = some cs ∧ RL w (fun b => b < w.heap.size) x cs) ∧ bkX rows ≤ dwL (xs.map (·.1))
 | 0, i, xs, hl, h => ⟨[], rfl, by simp, by simp, by simp [bkX]⟩
 | m + 1, i, [], hl, h => by simp at hl
 | m + 1, i, x :: xs, hl, h => by
  have h0 := h 0 (by omega)
  simp only [List.getElem?_cons_zero, Option.bind_eq_some_iff] at h0
  obtain ⟨cs, hcs, ht⟩ := h0
  obtain ⟨ds, d1, d2, d3⟩ := ih _ _ _ _ he ht
  obtain ⟨rows, r1, r2, r3, r4⟩ := opens_slice ih he (a := a) m (i + 1) xs (by simpa using hl) fun j hj => by
   have := h (j + 1) (by omega)
   rw [show i + (j + 1) = i + 1 + j by omega] at this
   simpa using this
  refine ⟨ds :: rows, by simp [r1], ?_, ?_, by simp only [List.map_cons, dwL, bkX]; omega⟩
  ·intro y hy
   rcases List.mem_cons.1 hy with rfl | hy
   ·exact d1
   ·exact r2 y hy
  ·intro j y hj
   cases j with
   | zero => simp at hj; subst hj; exact ⟨cs, by simpa using hcs, d2⟩
   | succ j =>
    have := r3 j y (by simpa using hj)
    rwa [show i + 1 + j = i + (j + 1) by omega] at this
theorem opens : ∀ k, Opens (H := H) enc P w k
 | 0 => fun _ _ _ _ h _ => by simp [okT] at h
 | k + 1 => fun t fuel cs x hk h => by
  simp only [okT] at hk
  simp only [TyD]
  split at hk
  ·rename_i kd ht
   obtain ⟨n, rfl, rfl, hw⟩ := DataW.trod_int ht h
   exact ⟨_, ⟨n, rfl, hw⟩, by simp [RL, RD], by simp [bkL, bk, dw]⟩
  ·rename_i ht
   obtain ⟨b, rfl, rfl⟩ := DataW.trod_bool ht h
   exact ⟨_, ⟨b, rfl⟩, by simp [RL, RD], by simp [bkL, bk, dw]⟩
  ·rename_i ht
   obtain ⟨s, rfl, rfl, hs⟩ := DataW.trod_string ht h
   refine ⟨_, ⟨s, rfl, hs⟩, by simp [RL, RD], ?_⟩
   have : s.data.toList.length = s.size := by rw [Array.length_toList]; rfl
   simp only [bkL, bk, dw]; omega
  ·rename_i e ht
   simp only [Bool.and_eq_true, decide_eq_true_eq] at hk
   rcases DataW.trod_slice ht h with ⟨rfl, rfl⟩ | ⟨a, len, cap, elems, rest, n, _, rfl, rfl, hb, hl, hm, hlen, hel, hsp, _⟩
   ·refine ⟨_, ⟨[], rfl, by simp⟩, ?_, by simp [bkL, bk, bkX, dw]⟩
    simp only [RL, RD]
    exact ⟨⟨trivial, hk.1, none, 0, rfl, by simp, by simp, by simp, by simp⟩, trivial⟩
   ·obtain ⟨rows, r1, r2, r3, r4⟩ := opens_slice (opens k) hk.2 (a := a) len 0 elems hlen fun j hj => by simpa using hel j hj
    obtain ⟨hr1, hr2⟩ := hsp rfl
    have first : cap ≠ 0 → ∃ v, w.cell? a = some v := by
     intro hc
     have : ∃ y, (w.cells? 0 a (P.cellsOf e)).bind (DataW.trod enc P w 0 (fun _ => true) true n e) = some y := by
      by_cases h0 : len = 0
      ·have := hr2 0 (by omega)
       rw [h0, Nat.add_zero, Nat.zero_mul] at this
       have ha : a.add 0 = a := by simp [Addr.add]
       rw [ha] at this
       exact ⟨_, this.trans (List.getElem?_eq_getElem (by omega))⟩
      ·have := hel 0 (by omega)
       rw [Nat.zero_mul] at this
       have ha : a.add 0 = a := by simp [Addr.add]
       rw [ha] at this
       exact ⟨_, this.trans (List.getElem?_eq_getElem (by omega))⟩
     obtain ⟨y, hy⟩ := this
     rw [Option.bind_eq_some_iff] at hy
     obtain ⟨cs, hcs, _⟩ := hy
     obtain ⟨_, h2, h3⟩ := World.cells?_some hcs
     have := h3 0 (by omega)
     have ha : a.add 0 = a := by simp [Addr.add]
     rw [ha, List.getElem?_eq_getElem (by omega)] at this
     exact ⟨_, this⟩
    refine ⟨_, ⟨rows, rfl, r2⟩, ?_, by simp only [bkL, bk, dw]; omega⟩
    simp only [RL, RD, and_true]
    refine ⟨trivial, hk.1, some a, cap, by rw [r1], by omega, fun p hp hc => ?_, by simp, fun hne => ⟨a, rfl, ?_, RX.of0 fun i y hy => ?_⟩⟩
    ·cases hp; obtain ⟨v, hv⟩ := first hc; exact spot_of_cell hv
    ·have : 0 < rows.length := List.length_pos_iff.2 hne
     obtain ⟨v, hv⟩ := first (by omega)
     exact lt_of_cell hv
    ·have hi := lt_of_get hy
     obtain ⟨v, hv⟩ := first (by omega)
     have hspot := spot_of_cell hv
     obtain ⟨cs, hcs, hrl⟩ := r3 i y hy
     obtain ⟨_, h2, h3⟩ := World.cells?_some hcs
     refine ⟨by rw [hrl.length, h2], hrl.rc fun j u hu => ?_⟩
     have := h3 j (by have := lt_of_get hu; omega)
     rw [hu] at this
     obtain ⟨b, o, sp⟩ := a
     simp only at hspot; subst hspot
     rw [addr_add, addr_add, Nat.zero_add] at this
     exact this
  ·rename_i fs ht
   obtain ⟨xs, n, _, rfl, hl, hxl, hf⟩ := DataW.trod_struct ht h
   rw [← hl] at hk
   obtain ⟨ds, d1, d2, d3⟩ := opens_fields (opens k) fs.toList 0 xs hk (by simpa using hxl) fun i f hf' => hf i f (by simpa using hf')
   exact ⟨ds, d1, d2, by simp only [dw]; omega⟩
  ·rename_i n e ht
   simp only [Bool.and_eq_true, beq_iff_eq] at hk
   obtain ⟨xs, m, _, rfl, hl, hxl, hf⟩ := DataW.trod_array ht h
   obtain ⟨ds, d1, d2, d3⟩ := opens_array (opens k) hk.2 (n := n) (hl.trans hk.1) n 0 xs (by omega) hxl fun j hj => by simpa using hf j hj
   exact ⟨ds, d1, by simpa using d2, by simp only [dw]; omega⟩
  ·cases hk
def pv1 : List D → PV
 | [d] => .d d
 | _ => .nilp
def pvOf (P : Program) (t : TypeId) (ds : List D) : PV := match P.underlying t with
 | some (.struct _) => .agg ds
 | some (.array _ _) => .agg ds
 | _ => pv1 ds
def pvsOf (P : Program) : List TypeId → List (List D) → List PV
 | t :: ts, x :: xs => pvOf P t x :: pvsOf P ts xs
 | _, _ => []
def TyArgs (P : Program) (k : Nat) : List TypeId → List (List D) → Prop
 | [], xs => xs = []
 | t :: ts, xs => ∃ x ys, xs = x :: ys ∧ TyD P k t x ∧ TyArgs P k ts ys
theorem open_arg {k : Nat} {t : TypeId} {v : Value} {d : DataW H} {ps : List MemPlace} (hk : okT P k t = true) (hv : Value.okWide P w .any 0 t v ∨ ∃ base, Value.okWide P w .any base t v) (h : DataW.Trod enc P w 0 (fun _ => true) true t v d ps) :
  ∃ ds, TyD P k t ds ∧ RP w (fun b => b < w.heap.size) (fun _ => 0) 0 0 (pvOf P t ds) v [] ∧ bkL ds ≤ dw d := by
 obtain ⟨fuel, h⟩ := h
 obtain ⟨ds, d1, d2, d3⟩ := opens k _ _ _ _ hk h
 refine ⟨ds, d1, ?_, d3⟩
 obtain ⟨base, hv⟩ : ∃ base, Value.okWide P w .any base t v := by rcases hv with h | h; exact ⟨0, h⟩; exact h
 have agg : ∀ cs : Array Value, v = .agg cs → RP w (fun b => b < w.heap.size) (fun _ => 0) 0 0 (.agg ds) v [] := by
  rintro cs rfl
  simp only [RP]
  refine ⟨cs, rfl, ?_, ?_⟩
  ·have := d2.length; simpa [Value.cells] using this.symm
  ·exact d2.rc fun i u hu => by simpa [Value.cells] using hu
 have one : (∀ cs, v ≠ .agg cs) → (∃ d, ds = [d] ∧ RD w (fun b => b < w.heap.size) 0 d v []) := by
  intro hn
  have : v.cells.toList = [v] := by cases v <;> simp [Value.cells] at hn ⊢
  rw [this] at d2
  match ds, d2 with
  | [d], h => exact ⟨d, rfl, h.1⟩
  | [], h => simp [RL] at h
  | _ :: _ :: _, h => simp [RL] at h
 have sc : (∀ cs, v ≠ .agg cs) → RP w (fun b => b < w.heap.size) (fun _ => 0) 0 0 (pv1 ds) v [] := by
  intro hn
  obtain ⟨d, rfl, hd⟩ := one hn
  simpa only [pv1, RP] using hd
 cases k with
 | zero => simp [okT] at hk
 | succ k =>
  simp only [okT] at hk
  simp only [pvOf]
  split at hk
  all_goals rename_i ht
  all_goals try (simp only [Value.okWide, ht, Cell.okWide] at hv; simp only [ht])
  ·exact sc fun cs e => by subst e; simp [Cell.ok, ht] at hv
  ·exact sc fun cs e => by subst e; simp [Cell.ok, ht] at hv
  ·exact sc fun cs e => by subst e; simp [Cell.ok, ht] at hv
  ·exact sc fun cs e => by subst e; simp [Cell.ok, ht] at hv
  ·obtain ⟨cs, hcs, _⟩ := hv; exact agg cs hcs
  ·obtain ⟨cs, hcs, _⟩ := hv; exact agg cs hcs
  ·cases hk
theorem open_args {k base : Nat} : ∀ {ts : List TypeId} {vs : List Value} {ds : List (DataW H)} {ps : List MemPlace}, ts.all (okT P k) = true →
  (∀ (j : Nat) t v, ts[j]? = some t → vs[j]? = some v → Value.okWide P w .any base t v) → DataW.TrodAll enc P w 0 (fun _ => true) true ts vs ds ps →
  ∃ xs, TyArgs P k ts xs ∧ RPs w (fun b => b < w.heap.size) (fun _ => 0) 0 (pvsOf P ts xs) vs ∧ bkX xs ≤ dwL ds
 | [], [], [], _, _, _, _ => ⟨[], rfl, by simp [pvsOf, RPs], by simp [bkX]⟩
 | t :: ts, v :: vs, d :: ds, ps, hk, hv, h => by
  simp only [DataW.TrodAll] at h
  obtain ⟨p, q, h1, h2, _⟩ := h
  simp only [List.all_cons, Bool.and_eq_true] at hk
  obtain ⟨x, x1, x2, x3⟩ := open_arg hk.1 (.inr ⟨base, hv 0 t v rfl rfl⟩) h1
  obtain ⟨xs, y1, y2, y3⟩ := open_args hk.2 (fun j t v ht hv' => hv (j + 1) t v (by simpa using ht) (by simpa using hv')) h2
  exact ⟨x :: xs, ⟨x, xs, rfl, x1, y1⟩, by simp only [pvsOf, RPs]; exact ⟨_, _, rfl, x2, y2⟩, by simp only [bkX, dwL]; omega⟩
 | [], [], _ :: _, _, _, _, h => by simp [DataW.TrodAll] at h
 | [], _ :: _, _, _, _, _, h => by simp [DataW.TrodAll] at h
 | _ :: _, [], _, _, _, _, h => by simp [DataW.TrodAll] at h
 | _ :: _, _ :: _, [], _, _, _, h => by simp [DataW.TrodAll] at h
theorem trodAll_below (hl : laidOutB P = true) {W' : World} (hb : Go.RowKit.Below w.heap.size w W') : ∀ {ts : List TypeId} {vs : List Value} {ds : List (DataW H)} {ps : List MemPlace},
  ts.all (fun t => P.readableRec t && decide (t < P.types.size)) = true → DataW.TrodAll enc P w 0 (fun _ => true) true ts vs ds ps →
  DataW.TrodAll enc P W' 0 (fun b => decide (b < w.heap.size)) true ts vs ds ps
 | [], [], [], _, _, h => h
 | t :: ts, v :: vs, d :: ds, ps, hk, h => by
  simp only [DataW.TrodAll] at h ⊢
  obtain ⟨p, q, h1, h2, he⟩ := h
  simp only [List.all_cons, Bool.and_eq_true, decide_eq_true_eq] at hk
  refine ⟨p, q, Go.RowKit.Below.trod hl hk.1.1 hk.1.2 h1 hb ?_, trodAll_below hl hb hk.2 h2, he⟩
  obtain ⟨m, hm⟩ := h1
  exact DataW.trod_lt m _ _ _ hm
 | [], [], _ :: _, _, _, h => by simp [DataW.TrodAll] at h
 | [], _ :: _, _, _, _, h => by simp [DataW.TrodAll] at h
 | _ :: _, [], _, _, _, h => by simp [DataW.TrodAll] at h
 | _ :: _, _ :: _, [], _, _, h => by simp [DataW.TrodAll] at h
end

open Go.ChangeShapes Go.WideShapes Go.ChangeAt Go.RowKit
theorem trodAll_len {H : Type} {enc : TypeId × Value → H} {P : Program} {w : World} {b : Nat} {sp : Nat → Bool} {hd : Bool} : ∀ {ts : List TypeId} {vs : List Value} {ds : List (DataW H)} {ps : List MemPlace}, DataW.TrodAll enc P w b sp hd ts vs ds ps → ds.length = ts.length
 | [], [], [], _, _ => rfl
 | t :: ts, v :: vs, d :: ds, ps, h => by
  simp only [DataW.TrodAll] at h
  obtain ⟨p, q, h1, h2, he⟩ := h
  simp [trodAll_len h2]
 | [], [], _ :: _, _, h => by simp [DataW.TrodAll] at h
 | [], _ :: _, _, _, h => by simp [DataW.TrodAll] at h
 | _ :: _, [], _, _, h => by simp [DataW.TrodAll] at h
 | _ :: _, _ :: _, [], _, h => by simp [DataW.TrodAll] at h
theorem law_contract_all {H : Type} {enc : TypeId × Value → H} {P : Program} {f : FuncId} {fn : Func} {s : ChangeSpec} (k tb : Nat) (hv : s.vars = []) (hl : laidOutB P = true)
  (hts : fn.params.toList.all (okT P k) = true) (hrr : fn.params.toList.all (fun t => P.readableRec t && decide (t < P.types.size)) = true)
  (hres : fn.resultTypes = #[tb]) (htb : P.underlying tb = some .bool)
  (hs : ∀ ds : List (DataW H), ds.length = fn.params.size → s.fn H ds = { results := [.lit (.bool true)], args := ds })
  (pure : ∀ xs, TyArgs P k fn.params.toList xs → FunJ P f (pvsOf P fn.params.toList xs) [] (.v 0 (.d (.bool true))) [])
  {W : World} {base : Nat} {args : Array Value} {ds gs : List (DataW H)} {before : List MemPlace}
  (hval : ∀ (j : Nat) t v, fn.params[j]? = some t → args[j]? = some v → Value.okWide P W .any base t v)
  (hW : DataW.Whole enc P fn.params.toList s.vars false W args.toList ds gs before) :
  Calls P f args W fun e W' => ∃ v, e = .returned v ∧ s.post enc P fn false true false false W args v W' := by
 have hW' := hW
 obtain ⟨p, q, hA, hV, rfl, hfz, hnd⟩ := hW
 rw [hv] at hV
 obtain ⟨rfl, rfl⟩ := trodVars_none hV
 obtain ⟨xs, x1, x2, x3⟩ := open_args (base := base) hts (fun j t v ht hv => hval j t v (by simpa using ht) (by simpa using hv)) hA
 have := FunJ.law (pure xs x1) x2
 refine this.mono fun e W' ⟨he, bel⟩ => ?_
 subst he
 have hlen : ds.length = fn.params.size := by rw [trodAll_len hA]; simp
 refine ⟨_, rfl, ds, [], _, [], p, [], hW', ?_, ?_, ?_, bel.frame _, fun h => by cases h⟩
 ·rw [List.append_nil, hs ds hlen, hres]
  exact trodAll_mk1 (shut_bool htb _)
 ·rw [List.append_nil, hs ds hlen]
  exact trodAll_below hl bel hrr hA
 ·rw [List.append_nil, hs ds hlen, hv]
  rfl


theorem TyD.int {P : Program} {t : TypeId} {kd : IntKind} (ht : P.underlying t = some (.int kd)) : ∀ (k : Nat) {ds : List D}, TyD P k t ds → ∃ n, ds = EI kd n ∧ kd.min ≤ n ∧ n ≤ kd.max
 | 0, _, h => h.elim
 | k + 1, ds, h => by
  simp only [TyD, ht] at h
  obtain ⟨n, rfl, hw⟩ := h
  simp only [Lit.wf, Bool.and_eq_true, decide_eq_true_eq] at hw
  exact ⟨n, rfl, hw⟩
theorem TyD.bool {P : Program} {t : TypeId} (ht : P.underlying t = some .bool) : ∀ (k : Nat) {ds : List D}, TyD P k t ds → ∃ b, ds = EB b ∧ True
 | 0, _, h => h.elim
 | k + 1, ds, h => by
  simp only [TyD, ht] at h
  obtain ⟨n, rfl⟩ := h
  exact ⟨n, rfl, trivial⟩
theorem TyD.str {P : Program} {t : TypeId} (ht : P.underlying t = some .string) : ∀ (k : Nat) {ds : List D}, TyD P k t ds → ∃ s, ds = ES s ∧ True
 | 0, _, h => h.elim
 | k + 1, ds, h => by
  simp only [TyD, ht] at h
  obtain ⟨n, rfl, _⟩ := h
  exact ⟨n, rfl, trivial⟩
theorem rows_of {α : Type} {E : α → List D} {W : α → Prop} : ∀ {xs : List (List D)}, (∀ x ∈ xs, ∃ y, x = E y ∧ W y) → ∃ ys, xs = List.map E ys ∧ ∀ y ∈ ys, W y
 | [], _ => ⟨[], rfl, by simp⟩
 | x :: xs, h => by
  obtain ⟨y, rfl, hy⟩ := h x (by simp)
  obtain ⟨ys, rfl, hs⟩ := rows_of (xs := xs) (E := E) (W := W) fun x hx => h x (by simp [hx])
  exact ⟨y :: ys, rfl, by simp; exact ⟨hy, hs⟩⟩
theorem TyD.slice {α : Type} {P : Program} {t e : TypeId} {s : Nat} {E : α → List D} {W : α → Prop} (ht : P.underlying t = some (.slice e)) (hs : P.cellsOf e = s)
  (he : ∀ (k : Nat) {ds : List D}, TyD P k e ds → ∃ y, ds = E y ∧ W y) : ∀ (k : Nat) {ds : List D}, TyD P k t ds → ∃ ys : List α, ds = EL s E ys ∧ ∀ y ∈ ys, W y
 | 0, _, h => h.elim
 | k + 1, ds, h => by
  simp only [TyD, ht] at h
  obtain ⟨xs, rfl, hx⟩ := h
  obtain ⟨ys, rfl, hy⟩ := rows_of fun x hx' => he k (hx x hx')
  exact ⟨ys, by rw [hs]; rfl, hy⟩
theorem TyD.struct {P : Program} {t : TypeId} {fs : Array Field} {ts : List TypeId} (ht : P.underlying t = some (.struct fs)) (hf : fs.toList.map (·.type) = ts) : ∀ (k : Nat) {ds : List D}, TyD P k t ds → ∃ k, TyAll (TyD P k) ts ds
 | 0, _, h => h.elim
 | k + 1, ds, h => by
  simp only [TyD, ht, hf] at h
  exact ⟨k, h⟩
theorem TyD.array {P : Program} {t e : TypeId} {n : Nat} (ht : P.underlying t = some (.array n e)) : ∀ (k : Nat) {ds : List D}, TyD P k t ds → ∃ k, TyAll (TyD P k) (List.replicate n e) ds
 | 0, _, h => h.elim
 | k + 1, ds, h => by
  simp only [TyD, ht] at h
  exact ⟨k, h⟩
def owX (l : Lab) : Lab := match l with
 | .frz => .frz
 | .ext => .ext
 | _ => .free
theorem owX_frz {l : Lab} : owX l = .frz ↔ l = .frz := by cases l <;> simp [owX]
theorem owX_free {l : Lab} (h : l = .free) : owX l = .free := by rw [h]; rfl
def st0X (args : List PV) (e : Ext) : St := { env := argEnv 0 args, objs := [], ext := e, marks := [] }
section
variable {P : Program} {T : Tab} {N : Nat}
theorem FunX.of {f : FuncId} {fn : Func} {body : Code} {args : List PV} {e e' : Ext} {st' : St} (hf : P.funcs[f]? = some fn) (hb : fn.body = some body) (hname : (fn.name == "runtime.NumGoroutine") = false) (hN : fn.ntmps = N) (hle : args.length ≤ N)
  (h : Reach P N [.code body] (st0X args e) (.ret st')) (he : st'.ext = e') (hres : fn.results = #[]) : FunX P f args e e' := by
 refine ⟨⟨fn, hf, by rw [hb]; rfl, hname⟩, fun w ow vs hargs hbnd hext => ?_⟩
 obtain ⟨a1, a2⟩ := RPs.get hargs
 let ow0 : Nat → Lab := fun b => owX (ow b)
 let ts0 : Array Value := vs.toArray ++ Array.replicate (N - vs.length) undef
 have z0 : ∀ b, Fz ow b → Fz ow0 b := fun b hb => owX_frz.2 hb
 have hts : ts0.size = N := by simp [ts0, a1]; omega
 have hr0 : Rel N w ow0 (fun _ => 0) ts0 (st0X args e) := by
  refine ⟨hts, fun t it hm => ?_, fun i cs hc => by simp [st0X] at hc, ?_, fun b hb => hbnd b fun e => hb (owX_free e), by simp [st0X]⟩
  ·obtain ⟨i, p, h1, rfl, rfl⟩ := argEnv_mem hm
   obtain ⟨v, h2, h3⟩ := a2 i p h1
   refine ⟨v, ?_, own0 (RP.mono (fun _ _ => rfl) z0 (fun _ _ => rfl) (Nat.le_refl _) 0 p v [] (by simp) h3)⟩
   have hi : i < vs.length := lt_of_get h2
   simp only [ts0, Nat.zero_add]
   rw [Array.getElem?_append_left (by simpa using hi)]
   simpa using h2
  ·exact e.ok w w ow ow0 (fun b hb => ⟨rfl, by rcases hb with hb | hb <;> simp only [ow0, hb, owX]⟩) (fun b _ hf => owX_free hf) (Nat.le_refl _) hext
 obtain ⟨w1, ow', φ', ts', k', ms, hr1, hm1', _, hmk, hk2, hst⟩ := h w ow0 _ ts0 hr0 f
 obtain ⟨w', hr', e1, e2, e3, e4, e5, _, hleave⟩ := leave_marks (P := P) hr1 hmk
 have hm' : Mods w ow0 w' ow' := ⟨e1.trans hm1'.os, e2.trans hm1'.tape, e3.trans hm1'.output, by rw [e4]; exact hm1'.size, fun b hb hl => ⟨(e5 b hb).trans (hm1'.keep b hb hl).1, (hm1'.keep b hb hl).2⟩⟩
 have hv1 : (results fn ts').run P w' = .ok (.tuple #[]) w' := by simp [results, hres]
 refine ⟨.tuple #[], w', fun b => owX (ow' b), fun cs => ?_, ⟨hm'.os, hm'.tape, hm'.output, hm'.size, fun b hb hl => ?_⟩, fun b hb => hr'.bnd b fun e => hb (owX_free e), ?_⟩
 ·have hen : (Frame.enter P f vs.toArray .normal).atR ⟨ts0, []⟩ [.code body] = Frame.enter P f vs.toArray .normal := by
   simp [Frame.enter, Frame.atR, hf, hb, hN, ts0]
  have hs := hst (Frame.enter P f vs.toArray .normal) rfl rfl [] cs
  rw [hen] at hs
  have hk2 : k' = [] ∨ ∃ k2, k' = .code .ret :: k2 := hk2
  rcases hk2 with hk2 | ⟨k2, hk2⟩
  ·subst hk2
   exact ⟨{ (Frame.enter P f vs.toArray .normal).atR ⟨ts', []⟩ [] with mode := .returning }, hs.trans ((.head (stepR_end rfl) (hleave { (Frame.enter P f vs.toArray .normal).atR ⟨ts', dfOf ms ++ []⟩ [] with mode := .returning } cs rfl (List.append_nil _)))), rfl, rfl, rfl, rfl, fn, hf, hv1⟩
  ·subst hk2
   exact ⟨{ (Frame.enter P f vs.toArray .normal).atR ⟨ts', []⟩ (.code .ret :: k2) with mode := .returning }, hs.trans ((.head (stepR_ret rfl) (hleave { (Frame.enter P f vs.toArray .normal).atR ⟨ts', dfOf ms ++ []⟩ (.code .ret :: k2) with mode := .returning } cs rfl (List.append_nil _)))), rfl, rfl, rfl, rfl, fn, hf, hv1⟩
 ·have h1 : ow0 b = ow b := by rcases hl with hl | hl <;> simp only [ow0, hl, owX]
  obtain ⟨k1, k2⟩ := hm'.keep b hb (by rw [h1]; exact hl)
  refine ⟨k1, ?_⟩
  simp only [k2, h1]
  rcases hl with hl | hl <;> rw [hl] <;> rfl
 ·rw [← he]
  exact st'.ext.ok w' w' ow' _ (fun b hb => ⟨rfl, by rcases hb with hb | hb <;> simp only [hb, owX]⟩) (fun b _ hf => owX_free hf) (Nat.le_refl _) hr'.ext
end


theorem lt_of_heap {w : World} {b : Nat} {o : Obj} (h : w.heap[b]? = some o) : b < w.heap.size := by
 rcases Nat.lt_or_ge b w.heap.size with h' | h'
 ·exact h'
 ·rw [Array.getElem?_eq_none h'] at h; cases h
def stabIt (it : It) : Bool := (it.deps (.sl 0)).isEmpty && it.base.isNone
theorem RIt.stab2 {w w' : World} {ow ow' : Nat → Lab} {φ φ' : Nat → Nat} {n n' : Nat} {ts ts' : Array Value} {t : Nat} {it : It}
  (hz : ∀ b, ow b = .frz → w'.heap[b]? = w.heap[b]? ∧ ow' b = .frz) (hφ : ∀ i, i < n → φ' i = φ i) (hn : n ≤ n') (hs : stabIt it = true) (ht : ts'[t]? = ts[t]?) (h : RIt w ow φ n ts t it) : RIt w' ow' φ' n' ts' t it := by
 obtain ⟨v, hv, hr⟩ := h
 refine ⟨v, ht.trans hv, ?_⟩
 have z1 : ∀ b, Fz ow b → w'.heap[b]? = w.heap[b]? := fun b hb => (hz b hb).1
 have z2 : ∀ b, Fz ow b → Fz ow' b := fun b hb => (hz b hb).2
 simp only [stabIt, Bool.and_eq_true] at hs
 obtain ⟨hs1, hs2⟩ := hs
 have pl : ∀ p : Pl, p.deps.isEmpty = true → p.base.isNone = true → False := by
  intro p h1 h2
  cases p <;> simp [Pl.deps, Pl.base] at h1 h2
 cases it with
 | v m p =>
  by_cases hm : m = 0
  ·subst hm
   obtain ⟨B, hB, _, _⟩ := hr
   obtain rfl := RP.zeroB hB
   exact own0 (RP.mono z1 z2 hφ hn 0 p v [] (by simp) hB)
  ·simp [It.deps, hm] at hs1
 | nils => exact hr
 | ap s xs => simp [It.deps] at hs1
 | tup ps =>
  obtain ⟨vs, B, hv, hB, _, _⟩ := hr
  by_cases ha : (ps.all (fun p => p.1 == 0)) = true
  ·obtain rfl := RTup.zeroB ha hB
   exact ⟨vs, [], hv, RTup.mono z1 z2 hφ hn ps _ [] (by simp) hB, by simp, by simp⟩
  ·simp only [It.deps] at hs1; rw [if_neg ha] at hs1; simp at hs1
 | b p => exact (pl p hs1 hs2).elim
 | bc p s lo k => exact (pl p hs1 hs2).elim
 | be p s i o => exact (pl p hs1 hs2).elim
 | kb b => exact hr
 | nn s xs => exact ⟨RD.mono z1 z2 0 _ _ [] (by simp) hr.1, hr.2⟩
 | pi o off => exact ⟨by rw [hφ o hr.2]; exact hr.1, Nat.lt_of_lt_of_le hr.2 hn⟩
 | fa cs =>
  obtain ⟨b, off, hv, h1, h2⟩ := hr
  exact ⟨b, off, hv, (hz b h1).2, by rw [mem_of_block (hz b h1).1]; exact RC.mono z1 z2 0 cs _ off [] (by simp) h2⟩
def setPs : List Nat → List Value → Array Value → Array Value
 | t :: ps, v :: vs, ts => setPs ps vs (ts.setIfInBounds t v)
 | _, _, ts => ts
theorem setPs_size : ∀ (ps : List Nat) (vs : List Value) (ts : Array Value), (setPs ps vs ts).size = ts.size
 | t :: ps, v :: vs, ts => by simp [setPs, setPs_size ps vs]
 | [], vs, ts => rfl
 | t :: ps, [], ts => rfl
theorem setPs_other : ∀ {ps : List Nat} {vs : List Value} {ts : Array Value} {t : Nat}, t ∉ ps → (setPs ps vs ts)[t]? = ts[t]?
 | q :: ps, v :: vs, ts, t, h => by
  simp only [setPs]
  rw [setPs_other (fun hm => h (by simp [hm])), Array.getElem?_setIfInBounds]
  split
  ·rename_i e; exact absurd (by simp [e]) h
  ·rfl
 | [], vs, ts, t, h => rfl
 | q :: ps, [], ts, t, h => rfl
theorem setPs_get : ∀ {ps : List Nat} {vs : List Value} {ts : Array Value} {i t : Nat} {v : Value}, ps.Nodup → (∀ p ∈ ps, p < ts.size) → ps[i]? = some t → vs[i]? = some v → (setPs ps vs ts)[t]? = some v
 | q :: ps, u :: vs, ts, i, t, v, hn, hl, h1, h2 => by
  obtain ⟨n1, n2⟩ := List.nodup_cons.1 hn
  simp only [setPs]
  cases i with
  | zero =>
   simp at h1 h2; subst h1; subst h2
   rw [setPs_other n1]
   have := hl q (by simp)
   simp [this]
  | succ i => exact setPs_get n2 (fun p hp => by rw [Array.size_setIfInBounds]; exact hl p (by simp [hp])) (by simpa using h1) (by simpa using h2)
 | [], vs, ts, i, t, v, hn, hl, h1, h2 => by simp at h1
 | q :: ps, [], ts, i, t, v, hn, hl, h1, h2 => by simp at h2
theorem setPs_fold (ps : Array Nat) (vs : List Value) (ts : Array Value) : (ps.zip vs.toArray).foldl (fun tmps (x : Nat × Value) => tmps.setIfInBounds x.1 x.2) ts = setPs ps.toList vs ts := by
 rw [← Array.foldl_toList, Array.toList_zip]
 generalize ps.toList = l
 induction l generalizing vs ts with
 | nil => rfl
 | cons t l ih =>
  cases vs with
  | nil => simp [setPs]
  | cons v vs => simp only [List.zip_cons_cons, List.foldl_cons, setPs]; exact ih vs _
def parEnv : List Nat → List PV → Env
 | t :: ps, p :: qs => (t, .v 0 p) :: parEnv ps qs
 | _, _ => []
theorem parEnv_mem : ∀ {ps : List Nat} {qs : List PV} {t : Nat} {it : It}, (t, it) ∈ parEnv ps qs → ∃ (i : Nat) (p : PV), ps[i]? = some t ∧ qs[i]? = some p ∧ it = .v 0 p
 | q :: ps, p :: qs, t, it, h => by
  simp only [parEnv] at h
  rcases List.mem_cons.1 h with h | h
  ·cases h; exact ⟨0, p, rfl, rfl, rfl⟩
  ·obtain ⟨i, p', h1, h2, h3⟩ := parEnv_mem h
   exact ⟨i + 1, p', by simpa using h1, by simpa using h2, h3⟩
 | [], qs, t, it, h => by simp [parEnv] at h
 | q :: ps, [], t, it, h => by simp [parEnv] at h
def RoundEnd : Option Code → List Item → Prop
 | none, t => t = []
 | some .ret, t => ∃ k, t = .code .ret :: k
 | some (.exit id), t => ∃ k, t = .code (.exit id) :: k ∧ exitTo id k = none
 | some (.goto l), t => ∃ k, t = .code (.goto l) :: k ∧ gotoIn l k = none
 | _, _ => False
theorem round_end {P : Program} {b : Frame} {a : Act} {c : Frame} {cs : List Frame} {w : World} {l : Nat} {rec : Loop} {j : Option Code} {todo : List Item} (hb : b.roundOf = some l) (hk : b.kind = .normal)
  (h : w.heap[l]? = some (.loop rec)) (he : RoundEnd j todo) :
  step P (lone (b.atR a todo) (c :: cs) w) = .next (lone (c.finish (.bool j.isNone)) cs (w.putObj l (.loop { rec with state := if j.isNone then .ready else .done, pending := j }))) := by
 have hr := run_endRound (P := P) j h
 cases j with
 | none => simp only [RoundEnd] at he; subst he; exact stepR_round_end hb hk hr
 | some j =>
  cases j <;> simp only [RoundEnd] at he
  ·obtain ⟨k, rfl, hx⟩ := he; exact stepR_round_exit hb hk hx hr
  ·obtain ⟨k, rfl, hx⟩ := he; exact stepR_round_goto hb hk hx hr
  ·obtain ⟨k, rfl⟩ := he; exact stepR_round_ret hb hk hr
def loopRec (g : FuncId) (ts : Array Value) (ps : Array Tmp) (assign body : Code) (r : Nat) (j : Option Code) : Loop :=
 { state := if j.isNone then .ready else .done, pending := j, fn := g, tmps := ts, params := ps, assign, body, defers := r }
def rangeExt (N : Nat) (g : FuncId) (ts : Array Value) (ps : Array Tmp) (assign body : Code) (l r lo : Nat) (ow0 : Nat → Lab) (φ0 : Nat → Nat) (m : Nat) (st : St) (j : Option Code) : Ext where
 p W I := lo ≤ W.heap.size ∧ ∃ O φ, Rel N W O φ ts st ∧ (∀ i, i < m → φ i = φ0 i) ∧ W.heap[l]? = some (.loop (loopRec g ts ps assign body r j)) ∧ W.heap[r]? = some (.deferred (some [])) ∧
  O l = .free ∧ O r = .free ∧ I l = .ext ∧ I r = .ext ∧ (∀ b, O b ≠ .free → I b = .ext ∨ (I b = .frz ∧ O b = .frz)) ∧ (∀ b, b < lo → ow0 b = .free → O b = .free ∧ I b = .free) ∧ (∀ b, ow0 b = .frz → O b = .frz) ∧
  (∀ b, b < lo → ow0 b ≠ .free → ow0 b ≠ .frz → I b = .ext)
 lo := lo
 le := fun W I h => h.1
 ok := fun W W' I I' hk hf hs h => by
  obtain ⟨h0, O, φ, hrel, hφ, hl, hr, ol, or, il, ir, hab, hfree, hfrz, hoth⟩ := h
  have hmore : More W O W' O := fun b hb => by
   rcases hab b hb with h1 | ⟨h1, _⟩
   ·exact ⟨(hk b (.inl h1)).1, rfl⟩
   ·exact ⟨(hk b (.inr h1)).1, rfl⟩
  refine ⟨Nat.le_trans h0 hs, O, φ, Rel.more hmore (fun _ _ h => h) hs (fun b hb => Nat.lt_of_lt_of_le (hrel.bnd b hb) hs) (fun _ _ => rfl) hrel, hφ, (hk l (.inl il)).1.trans hl, (hk r (.inl ir)).1.trans hr, ol, or, (hk l (.inl il)).2.trans il, (hk r (.inl ir)).2.trans ir, fun b hb => ?_, fun b hb h0 => ⟨(hfree b hb h0).1, hf b hb (hfree b hb h0).2⟩, hfrz, fun b hb h1 h2 => (hk b (.inl (hoth b hb h1 h2))).2.trans (hoth b hb h1 h2)⟩
  rcases hab b hb with h1 | ⟨h1, h2⟩
  ·exact .inl ((hk b (.inl h1)).2.trans h1)
  ·exact .inr ⟨(hk b (.inr h1)).2.trans h1, h2⟩
section
variable {P : Program} {T : Tab} {N : Nat}
theorem range_yld {g : FuncId} {ts : Array Value} {ps : Array Tmp} {assign body : Code} {l r lo : Nat} {ow0 : Nat → Lab} {φ0 : Nat → Nat} {m : Nat} {s s' : St} {j' : Option Code} {as : List PV} {stA stB : St} {todo : List Item}
  (hlr : l ≠ r) (hm : s.objs.length = m) (hm' : s'.objs.length = m) (hmA : stA.objs.length = m) (hxlo : s.ext.lo ≤ lo) (henv : s'.env = s.env) (hE : s.env.all (fun e => stabIt e.2 && !ps.toList.contains e.1) = true) (hmk : s.marks = []) (hmk' : s'.marks = [])
  (hps : ps.toList.Nodup) (hpN : ∀ p ∈ ps.toList, p < N) (hlen : as.length = ps.size)
  (hA : Reach P N [.code assign, .beginRound, .code body] { s with env := parEnv ps.toList as ++ s.env } (.at [.beginRound, .code body] stA) (fun b => b.roundOf.isSome = true))
  (hB : Reach P N [.code body] stA (.at todo stB) (fun b => b.roundOf.isSome = true)) (hend : RoundEnd j' todo) (hob : stB.objs = s'.objs) (hxt : stB.ext = s'.ext) :
  YldJ P l (rangeExt N g ts ps assign body l r lo ow0 φ0 m s none) as j'.isNone (rangeExt N g ts ps assign body l r lo ow0 φ0 m s' j') := by
 intro W I vs hargs hbnd hX
 obtain ⟨hlo, O, φ, hrel, hφ, hl, hrr, ol, or, il, ir, hab, hfree, hfrz, hoth⟩ := hX
 obtain ⟨a1, a2⟩ := RPs.get hargs
 -- what the function has given away is nobody's to write
 let O2 : Nat → Lab := fun b => if I b = .frz then .frz else O b
 have o2same : ∀ b, O b ≠ .free → O2 b = O b := fun b hb => by
  rcases hab b hb with h1 | ⟨h1, h2⟩
  ·simp only [O2]; rw [if_neg (by rw [h1]; simp)]
  ·simp only [O2]; rw [if_pos h1, h2]
 have o2l : O2 l = .free := by simp only [O2]; rw [if_neg (by rw [il]; simp)]; exact ol
 have o2r : O2 r = .free := by simp only [O2]; rw [if_neg (by rw [ir]; simp)]; exact or
 have hrel2 : Rel N W O2 φ ts s := by
  refine Rel.more (fun b hb => ⟨rfl, o2same b hb⟩) (fun b hb h0 => ?_) (Nat.le_refl _) (fun b hb => ?_) (fun _ _ => rfl) hrel
  ·have hb' : b < lo := Nat.lt_of_lt_of_le hb hxlo
   simp only [O2]
   by_cases h1 : ow0 b = .free
   ·rw [if_neg (by rw [(hfree b hb' h1).2]; simp)]; exact h0
   ·by_cases h2 : ow0 b = .frz
    ·rw [hfrz b h2] at h0; cases h0
    ·rw [if_neg (by rw [hoth b hb' h1 h2]; simp)]; exact h0
  ·by_cases h1 : I b = .frz
   ·exact hbnd b (by rw [h1]; simp)
   ·simp only [O2] at hb; rw [if_neg h1] at hb; exact hrel.bnd b hb
 have htsz : ts.size = N := hrel.tsz
 have hmem : ∀ t it, (t, it) ∈ s.env → stabIt it = true ∧ t ∉ ps.toList := fun t it hm => by
  have := List.all_eq_true.1 hE (t, it) hm
  simpa using this
 have hrel3 : Rel N W O2 φ (setPs ps.toList vs ts) { s with env := parEnv ps.toList as ++ s.env } := by
  refine ⟨by rw [setPs_size]; exact htsz, fun t it hmm => ?_, hrel2.objs, hrel2.ext, hrel2.bnd, hrel2.marks⟩
  rcases List.mem_append.1 hmm with hmm | hmm
  ·obtain ⟨i, p, h1, h2, rfl⟩ := parEnv_mem hmm
   obtain ⟨v, h3, h4⟩ := a2 i p h2
   refine ⟨v, setPs_get hps (fun p hp => by rw [htsz]; exact hpN p hp) h1 h3, own0 ?_⟩
   refine RP.mono (φ := fun _ => 0) (n := 0) (fun _ _ => rfl) (fun b hb => ?_) (fun i hi => by omega) (Nat.zero_le _) 0 p v [] (by simp) h4
   have hb : I b = .frz := hb
   show O2 b = .frz
   simp only [O2]; rw [if_pos hb]
  ·obtain ⟨k1, k2⟩ := hmem t it hmm
   exact RIt.stab2 (fun b hb => ⟨rfl, hb⟩) (fun _ _ => rfl) (Nat.le_refl _) k1 (setPs_other k2) (hrel2.env t it hmm)
 -- the assignments
 obtain ⟨Wa, Oa, φa, tsa, ka, msa, ra, ma, pa, _, rfl, sa⟩ := hA W O2 φ _ hrel3 g
 have hla : Wa.heap[l]? = some (.loop (loopRec g ts ps assign body r none)) := (ma.keep l (lt_of_heap hl) (.inl o2l)).1.trans hl
 have ola : Oa l = .free := (ma.keep l (lt_of_heap hl) (.inl o2l)).2.trans o2l
 have hra : Wa.heap[r]? = some (.deferred (some [])) := (ma.keep r (lt_of_heap hrr) (.inl o2r)).1.trans hrr
 have ora : Oa r = .free := (ma.keep r (lt_of_heap hrr) (.inl o2r)).2.trans o2r
 -- the round begins
 let Wb := Wa.putObj l (.loop { loopRec g ts ps assign body r none with state := .busy })
 have hmoreb : More Wa Oa Wb Oa := fun b hb => ⟨World.putObj_heap_other (fun e => hb (by rw [e]; exact ola)), rfl⟩
 have rb : Rel N Wb Oa φa tsa stA := Rel.more hmoreb (fun _ _ h => h) (by simp [Wb]) (fun b hb => by simp only [Wb, World.putObj_size]; exact ra.bnd b hb) (fun _ _ => rfl) ra
 obtain ⟨Wc, Oc, φc, tsc, kc, msc, rc, mc, pc, _, hkc, sc⟩ := hB Wb Oa φa tsa rb g
 have hkc : kc = todo := hkc
 subst hkc
 have hlb : Wb.heap[l]? = some (.loop { loopRec g ts ps assign body r none with state := .busy }) := World.putObj_heap_same (lt_of_heap hla)
 have hlc : Wc.heap[l]? = some (.loop { loopRec g ts ps assign body r none with state := .busy }) := (mc.keep l (lt_of_heap hlb) (.inl ola)).1.trans hlb
 have olc : Oc l = .free := (mc.keep l (lt_of_heap hlb) (.inl ola)).2.trans ola
 have hrb : Wb.heap[r]? = some (.deferred (some [])) := (World.putObj_heap_other (Ne.symm hlr)).trans hra
 have hrc : Wc.heap[r]? = some (.deferred (some [])) := (mc.keep r (lt_of_heap hrb) (.inl ora)).1.trans hrb
 have orc : Oc r = .free := (mc.keep r (lt_of_heap hrb) (.inl ora)).2.trans ora
 let Wd := Wc.putObj l (.loop (loopRec g ts ps assign body r j'))
 have hmored : More Wc Oc Wd Oc := fun b hb => ⟨World.putObj_heap_other (fun e => hb (by rw [e]; exact olc)), rfl⟩
 have rd : Rel N Wd Oc φc tsc stB := Rel.more hmored (fun _ _ h => h) (by simp [Wd]) (fun b hb => by simp only [Wd, World.putObj_size]; exact rc.bnd b hb) (fun _ _ => rfl) rc
 have sizab : W.heap.size ≤ Wb.heap.size := by simp only [Wb, World.putObj_size]; exact ma.size
 have sizd : W.heap.size ≤ Wd.heap.size := by
  have := mc.size
  simp only [Wd, World.putObj_size]; omega
 -- what is kept all the way
 have chain : ∀ b, b < W.heap.size → b ≠ l → (O2 b = .free ∨ O2 b = .frz) → Wd.heap[b]? = W.heap[b]? ∧ Oc b = O2 b := by
  intro b hb hne hl2
  obtain ⟨k1, k2⟩ := ma.keep b hb hl2
  have k3 : Wb.heap[b]? = Wa.heap[b]? := World.putObj_heap_other hne
  obtain ⟨k4, k5⟩ := mc.keep b (by omega) (by rw [k2]; exact hl2)
  have k6 : Wd.heap[b]? = Wc.heap[b]? := World.putObj_heap_other hne
  exact ⟨k6.trans (k4.trans (k3.trans k1)), k5.trans k2⟩
 let I' : Nat → Lab := fun b => if b < W.heap.size then I b else if Oc b = .free then .free else .ext
 have ilt : ∀ b, b < W.heap.size → I' b = I b := fun b hb => by simp only [I']; rw [if_pos hb]
 have ofree : ∀ b, I b ≠ .ext → I b ≠ .frz → O2 b = .free := fun b h1 h2 => by
  simp only [O2]; rw [if_neg h2]
  rcases Decidable.em (O b = .free) with h | h
  ·exact h
  ·rcases hab b h with h3 | ⟨h3, _⟩
   ·exact absurd h3 h1
   ·exact absurd h3 h2
 have o2f : ∀ b, I b = .frz → O2 b = .frz := fun b h => by simp only [O2]; rw [if_pos h]
 have lW : l < W.heap.size := lt_of_heap hl
 have rW : r < W.heap.size := lt_of_heap hrr
 let fr : Frame := { (default : Frame) with fn := g, kind := .normal, roundOf := some l }
 refine ⟨Wd, I', ⟨g, setPs ps.toList vs ts, assign, body, ?_, fun c cs => ?_⟩, ⟨mc.os.trans ma.os, mc.tape.trans ma.tape, mc.output.trans ma.output, sizd, fun b hb hI => ?_, fun b hI hne => ?_⟩, fun b hb => ?_, Nat.le_trans hlo sizd, Oc, φc, ?_, ?_, ?_, ?_, olc, orc, ?_, ?_, ?_, ?_, ?_, ?_⟩
 ·have := run_yield (P := P) (args := vs.toArray) hl (by simp [a1, hlen, loopRec])
  rw [this]
  simp only [loopRec]
  congr 2
  exact setPs_fold ps vs ts
 ·have e0 : Frame.round l g (setPs ps.toList vs ts) assign body .normal = fr.atR ⟨setPs ps.toList vs ts, []⟩ [.code assign, .beginRound, .code body] := by
   simp [Frame.round, Frame.atR, fr]
  rw [e0]
  refine (sa fr rfl rfl [] (c :: cs)).trans (.head (stepR_beginRound (l := l) rfl (run_beginRound hla (by simp [loopRec]))) ((sc fr rfl rfl (dfOf msa ++ []) (c :: cs)).trans (.one ?_)))
  exact round_end (l := l) rfl rfl hlc hend
 ·have hne : b ≠ l := fun e => by rw [e, il] at hI; cases hI
  obtain ⟨k1, k2⟩ := chain b hb hne (.inl (ofree b (by rw [hI]; simp) (by rw [hI]; simp)))
  exact ⟨k1, (ilt b hb).trans hI⟩
 ·have hb := hbnd b hI
  have hx : I b ≠ .ext := fun e => hne (by simp [e])
  have hnl : b ≠ l := fun e => hx (by rw [e]; exact il)
  refine ⟨?_, ilt b hb⟩
  by_cases hz : I b = .frz
  ·exact (chain b hb hnl (.inr (o2f b hz))).1
  ·exact (chain b hb hnl (.inl (ofree b hx hz))).1
 ·simp only [I'] at hb
  split at hb
  ·omega
  ·split at hb
   ·exact absurd rfl hb
   ·rename_i h; exact rd.bnd b h
 ·refine ⟨htsz, fun t it hmm => ?_, fun i cs hc => ?_, by rw [← hxt]; exact rd.ext, rd.bnd, by rw [hmk']; simp⟩
  ·rw [henv] at hmm
   obtain ⟨k1, k2⟩ := hmem t it hmm
   refine RIt.stab2 (w := W) (ow := O2) (φ := φ) (n := s.objs.length) (fun b hb => ?_) (fun i hi => ?_) (by omega) k1 rfl (hrel2.env t it hmm)
   ·have hb' := hrel2.bnd b (by rw [hb]; simp)
    obtain ⟨k3, k4⟩ := chain b hb' (fun e => by rw [e, o2l] at hb; cases hb) (.inr hb)
    exact ⟨k3, k4.trans hb⟩
   ·have hB0 : stB.objs.length = m := by rw [hob]; exact hm'
    have e1 := pa i (by show i < s.objs.length; omega) (by show i < stA.objs.length; omega)
    have e2 := pc i (by omega) (by show i < stB.objs.length; omega)
    rw [e2, e1]
  ·have := rd.objs i cs (by rw [hob]; exact hc)
   rw [hob] at this
   exact this
 ·intro i hi
  have e1 := pa i (by show i < s.objs.length; omega) (by show i < stA.objs.length; omega)
  have e2 := pc i (by omega) (by show i < stB.objs.length; rw [hob]; omega)
  rw [e2, e1]; exact hφ i hi
 ·exact World.putObj_heap_same (lt_of_heap hlc)
 ·exact (World.putObj_heap_other (Ne.symm hlr)).trans hrc
 ·rw [ilt l lW]; exact il
 ·rw [ilt r rW]; exact ir
 ·intro b hb
  by_cases hlt : b < W.heap.size
  ·rw [ilt b hlt]
   by_cases hz : I b = .frz
   ·refine .inr ⟨hz, ?_⟩
    rw [(chain b hlt (fun e => by rw [e, il] at hz; cases hz) (.inr (o2f b hz))).2]; exact o2f b hz
   ·by_cases hx : I b = .ext
    ·exact .inl hx
    ·exfalso
     have := ofree b hx hz
     exact hb ((chain b hlt (fun e => hx (by rw [e]; exact il)) (.inl this)).2.trans this)
  ·refine .inl ?_
   simp only [I']; rw [if_neg hlt, if_neg hb]
 ·intro b hb h0
  obtain ⟨h1, h2⟩ := hfree b hb h0
  have hlt : b < W.heap.size := Nat.lt_of_lt_of_le hb hlo
  have h3 := ofree b (by rw [h2]; simp) (by rw [h2]; simp)
  exact ⟨(chain b hlt (fun e => by rw [e, il] at h2; cases h2) (.inl h3)).2.trans h3, (ilt b hlt).trans h2⟩
 ·intro b h0
  have h1 := hfrz b h0
  have h2 : O2 b = .frz := (o2same b (by rw [h1]; simp)).trans h1
  have hlt := hrel2.bnd b (by rw [h2]; simp)
  exact (chain b hlt (fun e => by rw [e, o2l] at h2; cases h2) (.inr h2)).2.trans h2
 ·intro b hb h1 h2
  have hlt : b < W.heap.size := Nat.lt_of_lt_of_le hb hlo
  exact (ilt b hlt).trans (hoth b hb h1 h2)
end


section
variable {P : Program} {T : Tab} {N : Nat}
def jItems : Option Code → List Item
 | none => []
 | some c => [.code c]
theorem Reach.range {σ α : Type} {f : Operand} {ps : Array Tmp} {assign body : Code} {k : List Item} {h : FuncId} {cap : List PV} {S : σ → St} {J : σ → Option Code} {c : σ → α → Option (Bool × σ)} {A : α → List PV} {s0 sf : σ} {E : Env} {x : Ext} {m : Nat}
  (hx : opd (S s0).env f = some (.v 0 (.fn h cap))) (hcap : PV.okns 0 cap = true)
  (hS : ∀ s, (S s).env = E ∧ (S s).ext = x ∧ (S s).marks = [] ∧ (S s).objs.length = m)
  (hE : E.all (fun e => stabIt e.2 && !ps.toList.contains e.1) = true) (hps : ps.toList.Nodup) (hpN : ∀ p ∈ ps.toList, p < N) (hA : ∀ a, (A a).length = ps.size) (hJ : J s0 = none)
  (hbody : ∀ s a b s', c s a = some (b, s') → J s = none ∧ b = (J s').isNone ∧ ∃ stA todo stB, stA.objs.length = m ∧
   Reach P N [.code assign, .beginRound, .code body] { S s with env := parEnv ps.toList (A a) ++ (S s).env } (.at [.beginRound, .code body] stA) (fun b => b.roundOf.isSome = true) ∧
   Reach P N [.code body] stA (.at todo stB) (fun b => b.roundOf.isSome = true) ∧ RoundEnd (J s') todo ∧ stB.objs = (S s').objs ∧ stB.ext = x)
  (hiter : ∀ (l : Nat) (X : σ → Ext), (∀ s a b s', c s a = some (b, s') → YldJ P l (X s) (A a) b (X s')) → FunX P h (.yl l :: cap) (X s0) (X sf)) :
  Reach P N (.code (.rangeFunc f ps assign body) :: k) (S s0) (.at (jItems (J sf) ++ k) (S sf)) := by
 intro w ow φ ts hr g
 have hs0 := hS s0
 -- the function
 obtain ⟨us, hfv, hus⟩ : ∃ us : List Value, evalT ts f = .func (.func h) #[] us.toArray ∧ RPs w (Fz ow) φ (S s0).objs.length cap us := by
  obtain ⟨B, hB, _, _⟩ := opd_rel hr hx
  simp only [RP] at hB
  obtain ⟨us, h1, _, h2⟩ := hB
  exact ⟨us, h1, h2⟩
 let r := w.heap.size
 let l := w.heap.size + 1
 let w1 := (w.alloc (.deferred (some []))).alloc (.loop (loopRec g ts ps assign body r none))
 have hsz1 : w1.heap.size = w.heap.size + 2 := by simp [w1, World.size_alloc]
 have hold : ∀ b, b < w.heap.size → w1.heap[b]? = w.heap[b]? := fun b hb => by
  simp only [w1]
  rw [heap_alloc_old _ _ (by rw [World.size_alloc]; omega), heap_alloc_old _ _ hb]
 have hl1 : w1.heap[l]? = some (.loop (loopRec g ts ps assign body r none)) := by
  have := heap_alloc_new' (w.alloc (.deferred (some []))) (.loop (loopRec g ts ps assign body r none))
  rw [World.size_alloc] at this
  exact this
 have hr1 : w1.heap[r]? = some (.deferred (some [])) := by
  simp only [w1]
  rw [heap_alloc_old _ _ (by rw [World.size_alloc]; omega)]
  exact heap_alloc_new' w _
 let I : Nat → Lab := fun b => if b = l ∨ b = r then .ext else match ow b with
  | .free => .free
  | .frz => .frz
  | _ => .ext
 have il : I l = .ext := by simp [I]
 have ir : I r = .ext := by simp [I]
 have iold : ∀ b, b < w.heap.size → I b = (match ow b with
  | .free => .free
  | .frz => .frz
  | _ => .ext) := fun b hb => by simp only [I]; rw [if_neg (by simp only [l, r]; omega)]
 have obnd : ∀ b, w.heap.size ≤ b → ow b = .free := fun b hb => by
  rcases Decidable.em (ow b = .free) with h | h
  ·exact h
  ·have := hr.bnd b h; omega
 have ibnd : ∀ b, I b ≠ .free → b < w1.heap.size := fun b hb => by
  rw [hsz1]
  rcases Nat.lt_or_ge b w.heap.size with h | h
  ·omega
  ·by_cases h2 : b = l ∨ b = r
   ·rcases h2 with h2 | h2 <;> simp only [h2, l, r] <;> omega
   ·simp only [I] at hb; rw [if_neg h2, obnd b h] at hb; exact absurd rfl hb
 have izfrz : ∀ b, I b = .frz ↔ ow b = .frz := fun b => by
  rcases Nat.lt_or_ge b w.heap.size with h | h
  ·rw [iold b h]; cases ow b <;> simp
  ·rw [obnd b h]
   simp only [I, obnd b h]
   split <;> simp
 have hmore1 : More w ow w1 ow := fun b hb => ⟨hold b (hr.bnd b hb), rfl⟩
 have hrel1 : Rel N w1 ow φ ts (S s0) := Rel.more hmore1 (fun _ _ h => h) (by rw [hsz1]; omega) (fun b hb => by have := hr.bnd b hb; omega) (fun _ _ => rfl) hr
 have hxlo : x.lo ≤ w.heap.size := by have := (S s0).ext.le _ _ hr.ext; rw [hs0.2.1] at this; exact this
 let X : σ → Ext := fun s => rangeExt N g ts ps assign body l r w.heap.size ow φ m (S s) (J s)
 have hyl : ∀ s a b s', c s a = some (b, s') → YldJ P l (X s) (A a) b (X s') := by
  intro s a b s' hc
  obtain ⟨j1, rfl, stA, todo, stB, n1, b1, b2, b3, b4, b5⟩ := hbody s a b s' hc
  obtain ⟨e1, e2, e3, e4⟩ := hS s
  obtain ⟨e1', e2', e3', e4'⟩ := hS s'
  have := range_yld (P := P) (N := N) (g := g) (ts := ts) (l := l) (r := r) (lo := w.heap.size) (ow0 := ow) (φ0 := φ) (m := m) (s := S s) (s' := S s') (j' := J s') (by simp only [l, r]; omega) e4 e4' n1 (by rw [e2]; exact hxlo) (by rw [e1, e1']) (by rw [e1]; exact hE) e3 e3' hps hpN (hA a) b1 b2 b3 b4 (by rw [e2']; exact b5)
  simp only [X]
  rw [j1]
  exact this
 obtain ⟨⟨fn, hfn, hfb, hfname⟩, hfun⟩ := hiter l X hyl
 have hX0 : (X s0).p w1 I := by
  refine ⟨by rw [hsz1]; omega, ow, φ, hrel1, fun _ _ => rfl, by rw [hJ]; exact hl1, hr1, obnd l (by simp only [l]; omega), obnd r (Nat.le_refl _), il, ir, fun b hb => ?_, fun b hb h0 => ⟨h0, by rw [iold b hb, h0]⟩, fun b h0 => h0, fun b hb h1 h2 => ?_⟩
  ·rw [iold b (hr.bnd b hb)]
   cases h : ow b <;> simp_all
  ·rw [iold b hb]
   cases h : ow b <;> simp_all
 have hargs : RPs w1 (Fz I) (fun _ => 0) 0 (.yl l :: cap) (.func (.yield l) #[] #[] :: us) := by
  simp only [RPs]
  refine ⟨_, _, rfl, by simp [RP], RPs.mono (w := w) (Z := Fz ow) (φ := fun _ => 0) (n := 0) (fun b hb => hold b (hr.bnd b (by rw [show ow b = .frz from hb]; simp))) (fun b hb => (izfrz b).2 hb) (fun _ _ => rfl) (Nat.le_refl _) cap us (RPs.any0 cap us hcap hus)⟩
 obtain ⟨v, w2, I2, hcall, hm2, hbnd2, hX2⟩ := hfun w1 I _ hargs ibnd hX0
 obtain ⟨_, O, φ2, hrel2, hφ2, hl2, hrr2, ol2, or2, il2, ir2, hab2, hfree2, hfrz2, _⟩ := hX2
 let w3 := w2.putObj l (.loop { loopRec g ts ps assign body r (J sf) with state := .exhausted })
 have hmore3 : More w2 O w3 O := fun b hb => ⟨World.putObj_heap_other (fun e => hb (by rw [e]; exact ol2)), rfl⟩
 have hrel3 : Rel N w3 O φ2 ts (S sf) := Rel.more hmore3 (fun _ _ h => h) (by simp [w3]) (fun b hb => by simp only [w3, World.putObj_size]; exact hrel2.bnd b hb) (fun _ _ => rfl) hrel2
 have hsz2 : w.heap.size + 2 ≤ w2.heap.size := by have := hm2.size; omega
 refine ⟨w3, O, φ2, ts, _, [r], hrel3, ⟨hm2.os, hm2.tape, hm2.output, by simp only [w3, World.putObj_size]; omega, fun b hb hl => ?_⟩, fun i hi _ => hφ2 i (by rw [hs0.2.2.2] at hi; exact hi), ⟨by simp, fun r' hr' => ?_⟩, rfl, fun b hb hB df cs => ?_⟩
 ·have e3 : w3.heap[b]? = w2.heap[b]? := World.putObj_heap_other (by simp only [l]; omega)
  have hI : I b = .free ∨ I b = .frz := by
   rw [iold b hb]
   rcases hl with hl | hl <;> rw [hl] <;> simp
  refine ⟨e3.trans ((hm2.keep b (by omega) hI).1.trans (hold b hb)), ?_⟩
  rcases hl with hl | hl
  ·rw [hl]; exact (hfree2 b hb hl).1
  ·rw [hl]; exact hfrz2 b hl
 ·obtain rfl := List.mem_singleton.1 hr'
  refine ⟨Nat.le_refl _, by simp only [w3, World.putObj_size]; omega, ?_, or2⟩
  exact (World.putObj_heap_other (by simp only [l, r]; omega)).trans hrr2
 ·have he : (Instr.enterLoop b.fn ts ps assign body b.roundOf).run P w = .ok (l, [{ target := .collected r, args := #[] }]) w1 := by
   rw [hB, hb]
   exact run_enterLoop_outer _ _ _ _ _
  have hres : (resolve (Act.mk ts df).eval (rangeCall f l) 0).run P w1 = .ok { target := .fn (.func h) us.toArray, args := #[.func (.yield l) #[] #[]] } w1 := by
   rw [evalT_eq]
   have hc : evalT ts (.const (.func (.yield l) #[] #[])) = .func (.yield l) #[] #[] := rfl
   simp [resolve, hfv, Deferred.ofValue, hc]
  have hinv : (invoke (.fn (.func h) us.toArray) #[.func (.yield l) #[] #[]]).run P w1 = .ok (.enter h (#[.func (.yield l) #[] #[]] ++ us.toArray)) w1 := by
   have h1 : fn.name ≠ "runtime.NumGoroutine" := by simpa using hfname
   have h2 : fn.body ≠ none := by intro e; rw [e] at hfb; simp at hfb
   simp [invoke, callFunc, hfn, h1, h2]
  have henter := stepR_rangeFunc (P := P) (b := b) (a := ⟨ts, df⟩) (k := k) (cs := cs) (w := w) he hres hinv
  have ea : (Value.func (.yield l) #[] #[] :: us).toArray = #[.func (.yield l) #[] #[]] ++ us.toArray := by
   apply Array.toList_inj.1
   simp
  rw [ea] at hcall
  obtain ⟨fr, hs, hfnr, hleave⟩ := hcall (b.atR ⟨ts, [{ target := .collected r, args := #[] }] ++ df⟩ (.inRangeFunc l :: k) :: cs)
  refine .head henter (hs.trans (.head (step_leave_returned hleave) ?_))
  rw [finish_atR_inRangeFunc]
  have hend := run_endLoop (P := P) hl2 (by simp only [loopRec]; split <;> decide)
  have hst := stepR_endRangeFunc (P := P) (b := b) (a := ⟨ts, [{ target := .collected r, args := #[] }] ++ df⟩) (k := k) (cs := cs) hend
  have e4 : ((loopRec g ts ps assign body r (J sf)).pending.map Item.code).toList ++ k = jItems (J sf) ++ k := by
   simp only [loopRec]
   cases J sf <;> rfl
  rw [e4] at hst
  exact .one hst
end


theorem clV {m s : Nat} {xs : List (List D)} (h : RXCl m xs) : It.Cl (.v (m + 1) (.d (.sl s xs))) := by
 simp only [It.Cl, D.Cl]; exact h
theorem clI {m : Nat} {k : IntKind} {n : Int} : It.Cl (.v m (.d (.int k n))) := by cases m <;> simp only [It.Cl, D.Cl]
theorem clB {m : Nat} {b : Bool} : It.Cl (.v m (.d (.bool b))) := by cases m <;> simp only [It.Cl, D.Cl]
theorem clEL {α : Type} {m s : Nat} {e : α → List D} (h : ∀ x, RCCl m (e x)) (xs : List α) : RCCl (m + 1) (EL s e xs) := by
 simp only [EL, RCCl, D.Cl]; exact ⟨cl_map h xs, trivial⟩
theorem clEB {m : Nat} (b : Bool) : RCCl m (EB b) := by cases m <;> simp [EB, RCCl, D.Cl]
abbrev appD (a b : List D) : List D := a ++ b
def arrC {α : Type} (n : Nat) (E : α → List D) (a : Nat → α) : List D := (List.range n).flatMap fun j => E (a j)
def upd {α : Type} (a : Nat → α) (i : Nat) (x : α) : Nat → α := fun j => if j = i then x else a j
def ofL {α : Type} (d : α) (l : List α) : Nat → α := fun j => l.getD j d
def ob (cs : List D) : List (Nat × PV) := cs.map fun c => (0, .d c)
def arrOk (i : Int) (n : Nat) : Prop := 0 ≤ i ∧ i < n
instance (i : Int) (n : Nat) : Decidable (arrOk i n) := by unfold arrOk; infer_instance
theorem arrOk_lt {i : Int} {n : Nat} (h : arrOk i n) : i.toNat < n := by obtain ⟨h1, h2⟩ := h; omega
theorem flat_congr {α : Type} {f g : Nat → List α} : ∀ {l : List Nat}, (∀ j ∈ l, f j = g j) → l.flatMap f = l.flatMap g
 | [], _ => rfl
 | j :: l, h => by rw [List.flatMap_cons, List.flatMap_cons, h j (by simp), flat_congr fun i hi => h i (by simp [hi])]
theorem flat_len {α : Type} {sz : Nat} {E : α → List D} {a : Nat → α} (hE : ∀ x, (E x).length = sz) : ∀ l : List Nat, (l.flatMap fun j => E (a j)).length = l.length * sz
 | [] => by simp
 | j :: l => by rw [List.flatMap_cons, List.length_append, hE, flat_len hE l, List.length_cons, Nat.add_mul]; omega
theorem arrC_len {α : Type} {sz : Nat} {E : α → List D} (n : Nat) (hE : ∀ x, (E x).length = sz) (a : Nat → α) : (arrC n E a).length = n * sz := by
 unfold arrC; rw [flat_len hE]; simp
theorem range_split {i n : Nat} (h : i < n) : List.range n = List.range i ++ (i :: (List.range (n - i - 1)).map fun k => i + 1 + k) := by
 have : n = i + (n - i) := by omega
 rw [this, List.range_add]
 congr 1
 have : i + (n - i) - i = (n - i - 1) + 1 := by omega
 rw [show n - i = (n - i - 1) + 1 by omega, List.range_succ_eq_map]
 simp [Function.comp_def]
 intro a _; omega
theorem arrC_split {α : Type} {n i : Nat} (E : α → List D) (a : Nat → α) (h : i < n) : ∃ pre post, pre = arrC i E a ∧ ∀ x, arrC n E (upd a i x) = pre ++ (E x ++ post) := by
 refine ⟨_, ((List.range (n - i - 1)).map fun k => i + 1 + k).flatMap fun j => E (a j), rfl, fun x => ?_⟩
 unfold arrC
 rw [range_split h, List.flatMap_append, List.flatMap_cons]
 have e1 : ((List.range i).flatMap fun j => E (upd a i x j)) = (List.range i).flatMap fun j => E (a j) := by
  apply flat_congr
  intro j hj
  have := List.mem_range.1 hj
  simp only [upd]; rw [if_neg (by omega)]
 have e2 : (((List.range (n - i - 1)).map fun k => i + 1 + k).flatMap fun j => E (upd a i x j)) = ((List.range (n - i - 1)).map fun k => i + 1 + k).flatMap fun j => E (a j) := by
  apply flat_congr
  intro j hj
  obtain ⟨k, _, rfl⟩ := List.mem_map.1 hj
  simp only [upd]; rw [if_neg (by omega)]
 rw [e1, e2]
 simp only [upd, if_true]
theorem upd_self {α : Type} (a : Nat → α) (i : Nat) : upd a i (a i) = a := by
 funext j; simp only [upd]; split
 ·rename_i h; rw [h]
 ·rfl
def Zm {α : Type} (W : List D) (off : Nat) (E : α → List D) (a : α) (F : α → List D) : Prop := ∃ pre post : List D, pre.length = off ∧ W = F a ∧ ∀ x, F x = pre ++ (E x ++ post)
theorem Zm.self {α : Type} (E : α → List D) (a : α) : Zm (E a) 0 E a E := ⟨[], [], rfl, rfl, fun x => by simp⟩
theorem Zm.mid {α : Type} {W : List D} {off : Nat} (pre post : List D) (E : α → List D) (a : α) (hW : W = pre ++ (E a ++ post)) (h : pre.length = off) : Zm W off E a (fun x => pre ++ (E x ++ post)) := ⟨pre, post, h, hW, fun _ => rfl⟩
theorem Zm.first {α : Type} (E : α → List D) (a : α) (post : List D) : Zm (E a ++ post) 0 E a (fun x => E x ++ post) := ⟨[], post, rfl, rfl, fun _ => rfl⟩
theorem Zm.pre {α : Type} {W : List D} {off : Nat} {E : α → List D} {a : α} {F : α → List D} (p : List D) (n off' : Nat) (h : Zm W off E a F) (hl : p.length = n) (ho : n + off = off') : Zm (p ++ W) off' E a (fun x => p ++ F x) := by
 obtain ⟨q, post, h1, h2, h3⟩ := h
 exact ⟨p ++ q, post, by simp [h1, hl, ho], by rw [h2], fun x => by show p ++ F x = _; rw [h3]; simp⟩
theorem Zm.arr {α : Type} {W : List D} {off n i sz : Nat} {E : α → List D} {a : Nat → α} {F : (Nat → α) → List D} (h : Zm W off (arrC n E) a F) (hi : i < n) (hE : ∀ x, (E x).length = sz) : Zm W (off + i * sz) E (a i) (fun x => F (upd a i x)) := by
 obtain ⟨pre, post, h1, h2, h3⟩ := h
 obtain ⟨p, q, rfl, h4⟩ := arrC_split E a hi
 refine ⟨pre ++ arrC i E a, q ++ post, by rw [List.length_append, h1, arrC_len i hE], by show W = F (upd a i (a i)); rw [upd_self]; exact h2, fun x => ?_⟩
 show F (upd a i x) = _
 rw [h3, h4]; simp
section
variable {α : Type} {W : List D} {off n : Nat} {E : α → List D} {a : α} {F : α → List D}
theorem Zm.seg (h : Zm W off E a F) (hE : ∀ x, (E x).length = n) : segD W off n = E a := by
 obtain ⟨pre, post, rfl, h2, h3⟩ := h
 rw [h2, h3, segD, List.drop_left, List.take_left' (hE a)]
theorem aggOf_ob : ∀ (cs : List D) (r : List (Nat × PV)), aggOf cs.length (ob cs ++ r) = some cs
 | [], r => by simp [aggOf, ob]
 | c :: cs, r => by
  have := aggOf_ob cs r
  simp only [ob] at this
  simp only [ob, List.length_cons, List.map_cons, List.cons_append, aggOf, this]
theorem ob_append (x y : List D) : ob (x ++ y) = ob x ++ ob y := by simp [ob]
theorem ob_len (x : List D) : (ob x).length = x.length := by simp [ob]
theorem Zm.agg (h : Zm W off E a F) (hE : ∀ x, (E x).length = n) : aggOf n ((ob W).drop off) = some (E a) := by
 obtain ⟨pre, post, rfl, h2, h3⟩ := h
 rw [h2, h3, ob_append, ob_append, ← ob_len pre, List.drop_left, ← hE a]
 exact aggOf_ob _ _
theorem Zm.cell {d : D} (h : Zm W off E a F) (hd : E a = [d]) : (ob W)[off]? = some (0, .d d) := by
 obtain ⟨pre, post, rfl, h2, h3⟩ := h
 rw [h2, h3, ob_append, ob_append, hd, ← ob_len pre, List.getElem?_append_right (Nat.le_refl _), Nat.sub_self]
 rfl
theorem Zm.le (h : Zm W off E a F) (hE : ∀ x, (E x).length = n) (x : α) : off + (ob (E x)).length ≤ (ob W).length := by
 obtain ⟨pre, post, rfl, h2, h3⟩ := h
 rw [h2, h3, ob_len, ob_len, List.length_append, List.length_append, hE, hE]; omega
theorem Zm.set (h : Zm W off E a F) (hE : ∀ x, (E x).length = n) (x : α) : setSeg (ob W) off (ob (E x)) = ob (F x) := by
 have hle := h.le hE x
 obtain ⟨pre, post, rfl, h2, h3⟩ := h
 apply List.ext_getElem?
 intro j
 rw [setSeg_get hle, h2, h3, h3, ob_append, ob_append, ob_append, ob_append]
 have l1 : (ob (E x)).length = n := by rw [ob_len, hE]
 have l2 : (ob (E a)).length = n := by rw [ob_len, hE]
 have l3 := ob_len pre
 by_cases h1 : j < pre.length
 ·rw [if_neg (by omega), List.getElem?_append_left (by omega), List.getElem?_append_left (by omega)]
 ·by_cases h4 : j < pre.length + n
  ·rw [if_pos (by omega), List.getElem?_append_right (by omega), l3, List.getElem?_append_left (by omega)]
  ·rw [if_neg (by omega), List.getElem?_append_right (by omega), List.getElem?_append_right (by omega), List.getElem?_append_right (by omega), List.getElem?_append_right (by omega), l1, l2]
end
theorem TyD.arr {α : Type} {P : Program} {t e n : Nat} {E : α → List D} {W : α → Prop} (d0 : α) (ht : P.underlying t = some (.array n e))
  (he : ∀ (k : Nat) {ds : List D}, TyD P k e ds → ∃ y, ds = E y ∧ W y) : ∀ (k : Nat) {ds : List D}, TyD P k t ds → ∃ a : Nat → α, ds = arrC n E a ∧ ∀ j, j < n → W (a j)
 | 0, _, h => h.elim
 | k + 1, ds, h => by
  simp only [TyD, ht] at h
  have key : ∀ (m : Nat) (ds : List D), TyAll (TyD P k) (List.replicate m e) ds → ∃ l : List α, l.length = m ∧ ds = l.flatMap E ∧ ∀ y ∈ l, W y := by
   intro m
   induction m with
   | zero => intro ds h; exact ⟨[], rfl, h, by simp⟩
   | succ m ih =>
    intro ds h
    obtain ⟨x, y, rfl, h1, h2⟩ := h
    obtain ⟨v, rfl, hv⟩ := he k h1
    obtain ⟨l, l1, rfl, l3⟩ := ih y h2
    exact ⟨v :: l, by simp [l1], by simp, by simpa using ⟨hv, l3⟩⟩
  obtain ⟨l, l1, rfl, l3⟩ := key n ds h
  refine ⟨ofL d0 l, ?_, fun j hj => ?_⟩
  ·unfold arrC
   rw [← l1]
   have : l = (List.range l.length).map (ofL d0 l) := by
    apply List.ext_getElem
    ·simp
    ·intro i h1 h2
     simp [ofL, h1]
   conv => lhs; rw [this]
   rw [List.flatMap_map]
  ·have : ofL d0 l j = l[j]'(by omega) := by simp [ofL, l1, hj]
   rw [this]; exact l3 _ (List.getElem_mem _)
section
variable {P : Program} {T : Tab} {N : Nat}
end
def strOk (s : ByteArray) (i : Int) : Prop := 0 ≤ i ∧ i < (s.size : Nat)
instance (s : ByteArray) (i : Int) : Decidable (strOk s i) := by unfold strOk; infer_instance
theorem bytes_of (l : List Int) : Bytes (l.map (EI .u8)) := by
 intro x hx
 obtain ⟨n, _, rfl⟩ := List.mem_map.1 hx
 exact ⟨n, rfl⟩
theorem map_ne {α β : Type} {f : α → β} {l : List α} (h : l ≠ []) : l.map f ≠ [] := by simpa using h

section
variable {P : Program} {N : Nat}
theorem FunO.fewer {f : FuncId} {args : List (Nat × PV)} {oc oc' : Objs} {res : It} (m : Nat) (h : FunO P f args oc res oc') (hm : oc.length ≤ m) (hm' : m ≤ oc'.length) (hres : resFew m res = true) (hobj : (oc'.take m).all (oknC m) = true) : FunO P f args oc res (oc'.take m) := by
 obtain ⟨he, h⟩ := h
 refine ⟨he, fun w ow φ vs h1 h2 h3 => ?_⟩
 obtain ⟨v, w', ow', φ', c, md, p, l, r, o, b⟩ := h w ow φ vs h1 h2 h3
 have hl : (oc'.take m).length = m := by rw [List.length_take]; omega
 refine ⟨v, w', ow', φ', c, md, p, by omega, by rw [hl]; exact RV.fewer hres r, fun i cs hi => ?_, b⟩
 rw [hl]
 have hmem : cs ∈ oc'.take m := List.mem_of_getElem? hi
 rw [List.getElem?_take] at hi
 split at hi
 ·exact RObj.fewer (by simp only [List.all_eq_true] at hobj; exact hobj cs hmem) (o i cs hi)
 ·cases hi
theorem FunO.of' {f : FuncId} {fn : Func} {body : Code} {args : List (Nat × PV)} {oc oc' : Objs} {res : It} {rs : List Nat} (m : Nat) (hf : P.funcs[f]? = some fn) (hb : fn.body = some body) (hname : (fn.name == "runtime.NumGoroutine") = false) (hN : fn.ntmps = N) (hle : args.length ≤ N)
  (h : ∃ st', Reach P N [.code body] (st0O args oc) (.ret st') ∧ ResOK P N fn st' rs res ∧ st'.marks = [] ∧ Nat.ble m st'.objs.length = true ∧ st'.objs.take m = oc') (hm : Nat.ble oc.length m = true) (hr : resFew m res = true) (ho : oc'.all (oknC m) = true) : FunO P f args oc res oc' := by
 obtain ⟨st', h1, h2, h3, h4, rfl⟩ := h
 have h4 := Nat.le_of_ble_eq_true h4
 have hm := Nat.le_of_ble_eq_true hm
 exact FunO.fewer m (FunO.of hf hb hname hN hle h1 (Nat.le_trans hm h4) h3 h2) hm h4 hr ho
end
theorem flatR_rep (n : Nat) (x : List D) (h : (x.all fun d => !isSlD d) = true) : flatR (List.replicate n x) = true := by
 simp only [flatR, List.all_eq_true]
 intro y hy
 rw [(List.mem_replicate.1 hy).2]
 exact List.all_eq_true.1 h
theorem rep_mapD {α : Type} (e : α → List D) (n : Nat) (x : List D) (z : α) (h : x.map denD = e z) : (List.replicate n x).map (fun y => y.map denD) = List.map e (List.replicate n z) := by simp [h]
theorem set_map2 {α : Type} (s : Nat) (e : α → List D) (xs : List (List α)) (i : Nat) (ys : List α) (j : Nat) (v : α) : (xs.map (EL s e)).set i [.sl s ((ys.map e).set j (e v))] = (xs.set i (ys.set j v)).map (EL s e) := by
 rw [set_map e ys j v]; exact set_map (EL s e) xs i (ys.set j v)

end Go.Ev
