/- The engine's part EvT: what a function's code does, told of values; no program in sight. Conditions: none. -/
import Derived.Test.YtjbefkechgnhbaaEvQ
import Derived.Orders
import Derived.Below
import Derived.RangeFuncRecord
set_option linter.unusedVariables false
set_option linter.unusedSimpArgs false
namespace Go.Ev

def RoundTo (P : Program) (l : Nat) (args : Array Value) (w : World) (v : Value) (w' : World) : Prop :=
 ∃ f tmps assign body, (Instr.yield l args).run P w = .ok (.round l f tmps assign body) w ∧
  ∀ (c : Frame) (cs : List Frame), Steps P (lone (Frame.round l f tmps assign body .normal) (c :: cs) w) (lone (c.finish v) cs w')
def YldJ (P : Program) (l : Nat) (e : Ext) (args : List PV) (b : Bool) (e' : Ext) : Prop :=
 ∀ w ow vs, RPs w (Fz ow) (fun _ => 0) 0 args vs → (∀ b, ow b ≠ .free → b < w.heap.size) → e.p w ow →
  ∃ w' ow', RoundTo P l vs.toArray w (.bool b) w' ∧ Keep [.ext] w ow w' ow' ∧ (∀ b, ow' b ≠ .free → b < w'.heap.size) ∧ e'.p w' ow'
def FunX (P : Program) (f : FuncId) (args : List PV) (e e' : Ext) : Prop :=
 Entr P f ∧ ∀ w ow vs, RPs w (Fz ow) (fun _ => 0) 0 args vs → (∀ b, ow b ≠ .free → b < w.heap.size) → e.p w ow →
  ∃ v w' ow', CallTo P f vs.toArray w v w' ∧ Mods w ow w' ow' ∧ (∀ b, ow' b ≠ .free → b < w'.heap.size) ∧ e'.p w' ow'
theorem OpTo.round {P : Program} {o : Oper} {ts : Array Value} {w w' : World} {l : Nat} {args : Array Value} {v : Value} (hd : Oper.plain o)
  (hr : (execOp (evalT ts) o).run P w = (Instr.yield l args).run P w) (hc : RoundTo P l args w v w') : OpTo P o ts w v w' := by
 intro b df cs ops i rest k ho hw
 obtain ⟨f, tmps, assign, body, hy, hs⟩ := hc
 have hg := stepGR_op (P := P) (b := b) (a := ⟨ts, df⟩) (k := k) (cs := cs) (w := w) (rest := rest) ho hw
 rw [Oper.semAt_eq _ _ _ hd, evalT_eq] at hg
 have henter : step P (lone (b.atR ⟨ts, df⟩ (.inRegion ops (i :: rest) :: k)) cs w) =
   .next (lone (Frame.round l f tmps assign body .normal) (b.atR ⟨ts, df⟩ (.inRegion ops (i :: rest) :: k) :: cs) w) :=
  step_lone_go (by rw [hg]; simp [stepG.apply, Sem.runT_eq, hr, hy, Frame.atR])
 have hfin := Frame.finish_atR b ⟨ts, df⟩ ops i rest k v
 rw [ho] at hfin
 simp only [Option.bind_some, put_eq] at hfin
 refine .head henter ?_
 rw [← hfin]
 exact hs _ _
mutual
theorem RP.any0 {w : World} {Z : Nat → Prop} {φ φ' : Nat → Nat} {n : Nat} : ∀ (m : Nat) (p : PV) (v : Value) (B : List Nat), p.okn 0 = true → RP w Z φ n m p v B → RP w Z φ' 0 m p v B
 | m, .d x, v, B, ho, h => by simpa only [RP] using h
 | m, .agg cs, v, B, ho, h => by simpa only [RP] using h
 | m, .ptr o off, v, B, ho, h => by simp [PV.okn, Nat.blt_eq] at ho
 | m, .nilp, v, B, ho, h => by simpa only [RP] using h
 | m, .fn g cap, v, B, ho, h => by
  simp only [RP, PV.okn] at h ho ⊢
  obtain ⟨vs, hv, hb, h⟩ := h
  exact ⟨vs, hv, hb, RPs.any0 cap vs ho h⟩
 | m, .nilfn, v, B, ho, h => by simpa only [RP] using h
 | m, .yl l, v, B, ho, h => by simpa only [RP] using h
 | m, .fp cs, v, B, ho, h => by simpa only [RP] using h
 | m, .mf f cs, v, B, ho, h => by simpa only [RP] using h
theorem RPs.any0 {w : World} {Z : Nat → Prop} {φ φ' : Nat → Nat} {n : Nat} : ∀ (ps : List PV) (vs : List Value), PV.okns 0 ps = true → RPs w Z φ n ps vs → RPs w Z φ' 0 ps vs
 | [], vs, ho, h => by simpa only [RPs] using h
 | p :: ps, vs, ho, h => by
  simp only [RPs, PV.okns, Bool.and_eq_true] at h ho ⊢
  obtain ⟨v, vs', hv, h1, h2⟩ := h
  exact ⟨v, vs', hv, RP.any0 0 p v [] ho.1 h1, RPs.any0 ps vs' ho.2 h2⟩
end
def evYld (P : Program) (N : Nat) (st : St) (o : Oper) (orc : List Orc) : Ev :=
 match o.op, o.dst, orc with
 | .call { callee := .value x, args, argTypes := _ }, some d, .yld as b e' :: orc' =>
  match opd st.env x, argsOf st.env args.toList as with
  | some (.v 0 (.yl l)), some ps =>
   if (Nat.blt d N && PV.okns 0 ps) = true then
    some ({ st with env := (d, .v 0 (.d (.bool b))) :: st.env.filter (keeps (some d) [.ext]), ext := e' }, [YldJ P l st.ext as b e', ps = as], orc')
   else none
  | _, _ => none
 | _, _, _ => none
def evFn (N : Nat) (st : St) (o : Oper) (orc : List Orc) : Ev :=
 match o.op, o.dst with
 | .makeFunc (.func g) first captured, some d => match first.toList, argsOf st.env captured.toList [] with
  | [], some ps => if Nat.blt d N = true then some (setE st d (.v 0 (.fn g ps)), [], orc) else none
  | [x], some [] => (match opd st.env x with
   | some (.v 0 (.agg cs)) => if Nat.blt d N = true then some (setE st d (.v 0 (.mf g cs)), [], orc) else none
   | _ => none)
  | _, _ => none
 | _, _ => none
section
variable {P : Program} {T : Tab} {N : Nat} {st st' : St} {o : Oper} {orc orc' : List Orc} {obs : List Prop}
theorem argsOf_nil {env : Env} {xs : List Operand} {as : List PV} (h : argsOf env xs as = some []) : xs = [] := by
 cases xs with
 | nil => rfl
 | cons x xs =>
  simp only [argsOf] at h
  split at h
  ·cases h
  ·cases h
  ·split at h
   ·split at h <;> cases h
   ·cases h
  ·cases h
theorem evFn_sound (he : evFn N st o orc = some (st', obs, orc')) : Good P N o st st' := by
 unfold evFn at he
 split at he
 ·rename_i g first captured d hop hd
  split at he
  ·rename_i ps hf hps
   split at he
   ·rename_i hN
    cases he
    refine ⟨OpJ.pure (by intro c hc; rw [hop] at hc; cases hc) hd (by simpa [Nat.blt_eq] using hN) (by simp [It.base]) fun w ow φ ts hr => ?_, Nat.le_refl _, rfl⟩
    have hf : first = #[] := by apply Array.toList_inj.1; simpa using hf
    refine ⟨.func (.func g) #[] (captured.map (evalT ts)), by simp [execOp, hop, Instr.makeFunc, hf], own0 ?_⟩
    simp only [RP]
    exact ⟨captured.toList.map (evalT ts), by rw [← Array.toList_map], trivial, argsOf_sound hr hps⟩
   ·cases he
  ·rename_i x hf hps
   split at he
   ·rename_i cs hx
    split at he
    ·rename_i hN
     cases he
     refine ⟨OpJ.pure (by intro c hc; rw [hop] at hc; cases hc) hd (by simpa [Nat.blt_eq] using hN) (by simp [It.base]) fun w ow φ ts hr => ?_, Nat.le_refl _, rfl⟩
     have hf : first = #[x] := by apply Array.toList_inj.1; simpa using hf
     have hc : captured.map (evalT ts) = #[] := by
      have := argsOf_nil hps
      have : captured = #[] := by apply Array.toList_inj.1; simpa using this
      simp [this]
     obtain ⟨B, hB, _, _⟩ := opd_rel hr hx
     have hB0 := RP.zeroB hB
     subst hB0
     simp only [RP] at hB
     obtain ⟨vs, hv, hl, hB⟩ := hB
     refine ⟨.func (.func g) #[.agg vs] #[], by simp [execOp, hop, Instr.makeFunc, hf, hc, hv], own0 ?_⟩
     simp only [RP]
     exact ⟨vs, rfl, trivial, hl, hB⟩
    ·cases he
   ·cases he
  ·cases he
 ·cases he
theorem evYld_sound (he : evYld P N st o orc = some (st', obs, orc')) (ho : AllP obs) : Good P N o st st' := by
 unfold evYld at he
 split at he
 ·rename_i x args at' d as b e' orc1 hop hd
  split at he
  ·rename_i l ps hx ha
   split at he
   ·rename_i hcc
    cases he
    simp only [Bool.and_eq_true, Nat.blt_eq] at hcc
    obtain ⟨hN, hok⟩ := hcc
    obtain ⟨hy, rfl, _⟩ := ho
    refine ⟨fun w ow φ ts hr => ?_, Nat.le_refl _, rfl⟩
    have hxv : evalT ts x = .func (.yield l) #[] #[] := by
     obtain ⟨B, hB, _, _⟩ := opd_rel hr hx
     simp only [RP] at hB
     exact hB.1
    obtain ⟨w', ow', hrd, hk, hbnd, hext⟩ := hy w ow _ (RPs.any0 ps _ hok (argsOf_sound hr ha)) hr.bnd hr.ext
    refine ⟨w', ow', φ, .bool b, ?_, hk.mods (by simp), fun _ _ => rfl, ?_⟩
    ·rw [hd]
     have hdt : d < ts.size := by rw [hr.tsz]; exact hN
     refine ⟨by rw [putO_size]; exact hr.tsz, ?_, ?_, hext, hbnd, fun r hm => ?_⟩
     ·intro t it hm
      rcases List.mem_cons.1 hm with hm | hm
      ·cases hm
       exact ⟨_, putO_same hdt, own0 (by simp [RP, RD])⟩
      ·obtain ⟨hm, hkp⟩ := List.mem_filter.1 hm
       obtain ⟨k1, k2, k3⟩ := keeps_spec hkp
       exact RIt.keep hk (by simp) (fun _ _ => rfl) (Nat.le_refl _) (putO_other k1) (fun t' ht' => putO_other (k2 t' ht')) k3 (hr.env t it hm)
     ·intro i cs hc
      exact RObj.keep hk (by simp) (fun _ _ => rfl) (Nat.le_refl _) (lt_of_get hc) (by simp) (fun _ _ _ _ => .inr (by simp)) (hr.objs i cs hc)
     ·obtain ⟨h1, h2⟩ := hr.marks r hm
      obtain ⟨h3, h4⟩ := hk.keep r (by rw [h2]; simp) (by rw [h2]; simp)
      exact ⟨h3.trans h1, h4.trans h2⟩
    ·refine OpTo.round (l := l) (args := (args.toList.map (evalT ts)).toArray) (by intro c hc; rw [hop] at hc; cases hc) ?_ hrd
     have e : (args.toList.map (evalT ts)).toArray = args.map (evalT ts) := by rw [← Array.toList_map]
     rw [e]
     simp [execOp, hop, resolve, invoke, hxv, Deferred.ofValue]
   ·cases he
  ·cases he
 ·cases he
end


def ArgsO (w : World) (ow : Nat → Lab) (φ : Nat → Nat) (n : Nat) (as : List (Nat × PV)) (vs : List Value) : Prop :=
 vs.length = as.length ∧ ∀ i m p, as[i]? = some (m, p) → ∃ v, vs[i]? = some v ∧ Own w ow φ n m p v (.sl i)
def FunO (P : Program) (f : FuncId) (args : List (Nat × PV)) (oc : Objs) (res : It) (oc' : Objs) : Prop :=
 Entr P f ∧ ∀ w ow φ vs, ArgsO w ow φ oc.length args vs → (∀ i cs, oc[i]? = some cs → RObj w ow φ oc.length i cs) → (∀ b, ow b ≠ .free → b < w.heap.size) →
  ∃ v w' ow' φ', CallTo P f vs.toArray w v w' ∧ Mods w ow w' ow' ∧ (∀ i, i < oc.length → φ' i = φ i) ∧ oc.length ≤ oc'.length ∧
   RV w' ow' φ' oc'.length #[] (.sl 0) res v ∧ (∀ i cs, oc'[i]? = some cs → RObj w' ow' φ' oc'.length i cs) ∧ (∀ b, ow' b ≠ .free → b < w'.heap.size)
def argsO (env : Env) : Nat → List Operand → List (Nat × PV) → Option (List (Nat × PV) × List (Nat × Nat))
 | _, [], _ => some ([], [])
 | i, x :: xs, as => match argsO env (i + 1) xs as.tail with
  | none => none
  | some (ps, ows) => match opd env x with
   | some (.v (m + 1) (.d (.sl s ys))) => (match x with
    | .tmp r => some ((m + 1, .d (.sl s ys)) :: ps, (r, i) :: ows)
    | _ => none)
   | some (.v 0 p) => some ((0, p) :: ps, ows)
   | some (.kb b) => some ((0, .d (.bool b)) :: ps, ows)
   | some .nils => (match as.head? with
    | some (m, .d (.sl s _)) => if Nat.ble 1 s = true then some ((m, .d (.sl s [])) :: ps, ows) else none
    | _ => none)
   | _ => none
def ownAt (ows : List (Nat × Nat)) (t : Nat) : Option Nat := match ows with
 | [] => none
 | (r, i) :: l => if Nat.beq r t = true then some i else ownAt l t
def downO (pi : List Nat) (S : List Lab) (ows : List (Nat × Nat)) (l : Lab) : Lab := match l with
 | .frz => .frz
 | .sl t => (match ownAt ows t with
  | some i => .sl i
  | none => .free)
 | .bx i => if Lab.bx i ∈ S then .bx (pi.idxOf i) else .free
 | .ce i j => if Lab.ce i j ∈ S then .ce (pi.idxOf i) j else .free
 | _ => .free
def evCallO (P : Program) (N : Nat) (st : St) (o : Oper) (orc : List Orc) : Ev :=
 match o.op, o.dst, orc with
 | .call { callee := .value x, args, argTypes := _ }, some d, .seg _ :: .call pi _ (as :: oc) oc' res :: orc' =>
  match opd st.env x, argsO st.env 0 args.toList as, objsAt st.objs pi, resRen (fwd pi st.objs.length) res with
  | some (.v 0 (.fn f [])), some (ps, ows), some os, some it =>
   if (Nat.blt d N && Nat.beq oc.length pi.length && Nat.ble oc.length oc'.length && nodupB pi && oknC oc.length as && oc.all (oknC oc.length) && nodupB (ows.map (·.1))) = true then
    some ({ st with env := (d, it) :: st.env.filter (keeps (some d) (labsOf pi oc ++ ows.map fun e => .sl e.1)), objs := newObjs st.objs pi oc' },
     [FunO P f as oc res oc', ps = renC (fwd pi st.objs.length) as, os = oc.map (renC (fwd pi st.objs.length))], orc')
   else none
  | _, _, _, _ => none
 | _, _, _ => none
section
variable {P : Program} {T : Tab} {N : Nat} {st st' : St} {o : Oper} {orc orc' : List Orc} {obs : List Prop}
theorem ownAt_mem : ∀ {ows : List (Nat × Nat)} {r i : Nat}, nodupB (ows.map (·.1)) = true → (r, i) ∈ ows → ownAt ows r = some i
 | [], r, i, _, h => by simp at h
 | (r', i') :: l, r, i, hn, h => by
  simp only [List.map_cons, nodupB, Bool.and_eq_true, List.all_eq_true, Bool.not_eq_true'] at hn
  simp only [ownAt]
  rcases List.mem_cons.1 h with h | h
  ·cases h; rw [if_pos (Nat.beq_refl _)]
  ·have : Nat.beq r' r = false := hn.1 r (List.mem_map.2 ⟨_, h, rfl⟩)
   rw [if_neg (by rw [this]; simp)]
   exact ownAt_mem hn.2 h
theorem ownAt_some : ∀ {ows : List (Nat × Nat)} {r i : Nat}, ownAt ows r = some i → (r, i) ∈ ows
 | [], r, i, h => by simp [ownAt] at h
 | (r', i') :: l, r, i, h => by
  simp only [ownAt] at h
  split at h
  ·rename_i e
   cases h
   rw [Nat.eq_of_beq_eq_true e]; simp
  ·exact List.mem_cons_of_mem _ (ownAt_some h)
theorem argsO_sound {w : World} {ow : Nat → Lab} {φ : Nat → Nat} {ts : Array Value} (h : Rel N w ow φ ts st) : ∀ {xs : List Operand} {i : Nat} {as ps : List (Nat × PV)} {ows : List (Nat × Nat)}, argsO st.env i xs as = some (ps, ows) →
  ps.length = xs.length ∧ (∀ r k, (r, k) ∈ ows → i ≤ k) ∧ ∀ k m p, ps[k]? = some (m, p) → ∃ v, (xs.map (evalT ts))[k]? = some v ∧ ((∃ r, (r, i + k) ∈ ows ∧ Own w ow φ st.objs.length m p v (.sl r)) ∨ RP w (Fz ow) φ st.objs.length m p v [])
 | [], i, as, ps, ows, ha => by simp only [argsO] at ha; cases ha; simp
 | x :: xs, i, as, ps, ows, ha => by
  simp only [argsO] at ha
  split at ha
  ·cases ha
  ·rename_i ps' ows' hr
   obtain ⟨l1, l2, l3⟩ := argsO_sound h hr
   have tl : ∀ (q : Nat × PV) (ows2 : List (Nat × Nat)), (∀ e ∈ ows', e ∈ ows2) → (∃ v, evalT ts x = v ∧ ((∃ r, (r, i) ∈ ows2 ∧ Own w ow φ st.objs.length q.1 q.2 v (.sl r)) ∨ RP w (Fz ow) φ st.objs.length q.1 q.2 v [])) →
     ∀ k m p, (q :: ps')[k]? = some (m, p) → ∃ v, ((x :: xs).map (evalT ts))[k]? = some v ∧ ((∃ r, (r, i + k) ∈ ows2 ∧ Own w ow φ st.objs.length m p v (.sl r)) ∨ RP w (Fz ow) φ st.objs.length m p v []) := by
    intro q ows2 hsub hq k m p hk
    cases k with
    | zero =>
     simp at hk; subst hk
     obtain ⟨v, rfl, hv⟩ := hq
     exact ⟨evalT ts x, by simp, by simpa using hv⟩
    | succ k =>
     obtain ⟨v, v1, v2⟩ := l3 k m p (by simpa using hk)
     refine ⟨v, by simpa using v1, ?_⟩
     rcases v2 with ⟨r, r1, r2⟩ | v2
     ·exact .inl ⟨r, hsub _ (by rw [show i + (k + 1) = i + 1 + k by omega]; exact r1), r2⟩
     ·exact .inr v2
   have ge : ∀ r k, (r, k) ∈ ows' → i ≤ k := fun r k hm => Nat.le_of_succ_le (l2 r k hm)
   split at ha
   ·rename_i m s ys hx
    split at ha
    ·rename_i r
     cases ha
     refine ⟨by simp [l1], fun r' k hm => ?_, tl _ _ (fun e he => List.mem_cons_of_mem _ he) ⟨_, rfl, .inl ⟨r, by simp, opd_rel h hx⟩⟩⟩
     rcases List.mem_cons.1 hm with hm | hm
     ·cases hm; exact Nat.le_refl _
     ·exact ge _ _ hm
    ·cases ha
   ·rename_i p hx
    cases ha
    refine ⟨by simp [l1], ge, tl _ _ (fun _ h => h) ⟨_, rfl, .inr ?_⟩⟩
    obtain ⟨B, hB, _, _⟩ := opd_rel h hx
    obtain rfl := RP.zeroB hB
    exact hB
   ·rename_i b hx
    cases ha
    exact ⟨by simp [l1], ge, tl _ _ (fun _ h => h) ⟨_, rfl, .inr (by have : evalT ts x = .bool b := opd_rel h hx; simp [RP, RD, this])⟩⟩
   ·rename_i hx
    split at ha
    ·rename_i m s ys hh
     split at ha
     ·rename_i hs
      cases ha
      have hv : evalT ts x = .slice none 0 0 := opd_rel h hx
      refine ⟨by simp [l1], ge, tl _ _ (fun _ h => h) ⟨_, rfl, .inr ?_⟩⟩
      have hs := Nat.le_of_ble_eq_true hs
      rw [hv]
      cases m with
      | zero => simp only [RP, RD]; exact ⟨trivial, hs, none, 0, by simp, by simp, by simp, by simp, by simp⟩
      | succ m => simp only [RP, RD]; exact ⟨hs, .inl ⟨trivial, trivial, trivial⟩⟩
     ·cases ha
    ·cases ha
   ·cases ha
theorem evCallO_sound (he : evCallO P N st o orc = some (st', obs, orc')) (ho : AllP obs) : Good P N o st st' := by
 unfold evCallO at he
 split at he
 ·rename_i x args at' d sg pi as0 as oc oc' res orc1 hop hd
  split at he
  ·rename_i f ps ows os it hx ha hos hres
   split at he
   ·rename_i hcc
    cases he
    simp only [Bool.and_eq_true, Nat.blt_eq, Nat.ble_eq] at hcc
    obtain ⟨⟨⟨⟨⟨⟨hN, hlen⟩, hle⟩, hnd⟩, hoka⟩, hoko⟩, hnw⟩ := hcc
    have hlen := Nat.eq_of_beq_eq_true hlen
    have hnd := nodupB_spec hnd
    obtain ⟨⟨⟨fn, hfn, hfb, hfname⟩, hf⟩, hps, hosE, _⟩ := ho
    obtain ⟨ol, og⟩ := objsAt_get hos
    have hnl : (newObjs st.objs pi oc').length = st.objs.length + (oc'.length - pi.length) := by
     simp [newObjs, setAll_length]
    refine ⟨fun w ow φ ts hr => ?_, by rw [hnl]; omega, rfl⟩
    generalize hS : labsOf pi oc = S
    generalize hS' : S ++ (ows.map fun e => Lab.sl e.1) = S'
    have hpi : ∀ k i : Nat, pi[k]? = some i → i < st.objs.length := fun k i hk => by obtain ⟨c, h1, _⟩ := og k i hk; exact lt_of_get h1
    have hfw : ∀ k i : Nat, pi[k]? = some i → fwd pi st.objs.length k = i := fun k i hk => by simp [fwd, hk]
    have hfw2 : ∀ k : Nat, pi.length ≤ k → fwd pi st.objs.length k = st.objs.length + (k - pi.length) := fun k hk => by simp [fwd, List.getElem?_eq_none hk]
    -- the callee's view
    let owc : Nat → Lab := fun b => downO pi S ows (ow b)
    let φc : Nat → Nat := fun k => φ (fwd pi st.objs.length k)
    have frzc : ∀ b, owc b = .frz ↔ ow b = .frz := by
     intro b
     show downO pi S ows (ow b) = .frz ↔ _
     cases hl : ow b
     case sl t => simp only [downO]; split <;> simp
     case bx i => simp only [downO]; split <;> simp
     case ce i j => simp only [downO]; split <;> simp
     all_goals simp [downO]
    have freec : ∀ b, ow b ≠ .frz → ow b ∉ S' → owc b = .free := by
     intro b h1 h2
     rw [← hS'] at h2
     simp only [List.mem_append, not_or] at h2
     show downO pi S ows (ow b) = .free
     cases hl : ow b
     case frz => exact absurd hl h1
     case sl t =>
      rw [hl] at h2
      simp only [downO]
      split
      ·rename_i i hi
       exact absurd (List.mem_map.2 ⟨_, ownAt_some hi, rfl⟩) h2.2
      ·rfl
     case bx i => rw [hl] at h2; simp only [downO]; rw [if_neg h2.1]
     case ce i j => rw [hl] at h2; simp only [downO]; rw [if_neg h2.1]
     all_goals rfl
    have hxv : evalT ts x = .func (.func f) #[] #[] := by
     obtain ⟨B, hB, _, _⟩ := opd_rel hr hx
     simp only [RP] at hB
     obtain ⟨us, h1, _, h2⟩ := hB
     simp only [RPs] at h2
     subst h2; simpa using h1
    obtain ⟨al, _, ag⟩ := argsO_sound hr ha
    have hargs : ArgsO w owc φc oc.length as (args.toList.map (evalT ts)) := by
     refine ⟨by rw [List.length_map, ← al, hps]; simp [renC], fun i m p hi => ?_⟩
     have hp : p.okn oc.length = true := List.all_eq_true.1 hoka (m, p) (List.mem_of_getElem? hi)
     obtain ⟨v, v1, v2⟩ := ag i m (p.ren (fwd pi st.objs.length)) (by rw [hps]; simp [renC, hi])
     refine ⟨v, v1, ?_⟩
     rcases v2 with ⟨r, r1, B, r2, r3, r4⟩ | v2
     ·refine ⟨B, RP.down (Z := Fz ow) (φ := φ) (n := st.objs.length) (f := fwd pi st.objs.length) (fun b hb => (frzc b).2 hb) (fun o _ => rfl) m p v B hp r2, r3, fun b hb => ?_⟩
      show downO pi S ows (ow b) = _
      rw [r4 b hb]
      simp only [downO]
      rw [Nat.zero_add] at r1
      rw [ownAt_mem hnw r1]
     ·exact ⟨[], RP.down (Z := Fz ow) (φ := φ) (n := st.objs.length) (f := fwd pi st.objs.length) (fun b hb => (frzc b).2 hb) (fun o _ => rfl) m p v [] hp v2, List.nodup_nil, by simp⟩
    have hobjs : ∀ i cs, oc[i]? = some cs → RObj w owc φc oc.length i cs := by
     intro k cs hk
     have hkl : k < pi.length := by rw [← hlen]; exact lt_of_get hk
     obtain ⟨i, hki⟩ : ∃ i, pi[k]? = some i := ⟨_, List.getElem?_eq_getElem hkl⟩
     obtain ⟨c0, hc0, hos0⟩ := og k i hki
     have hce : c0 = renC (fwd pi st.objs.length) cs := by
      rw [hosE, List.getElem?_map, hk] at hos0
      simpa using hos0.symm
     obtain ⟨c, e, hh, hsz, hl, hcs⟩ := hr.objs i c0 hc0
     have hφk : φc k = φ i := by simp only [φc]; rw [hfw k i hki]
     refine ⟨c, e, by rw [hφk]; exact hh, by rw [hsz, hce]; simp [renC], ?_, fun j m p hj => ?_⟩
     ·rw [hφk]
      simp only [owc, hl, downO]
      rw [if_pos (by rw [← hS]; exact labsOf_bx hki hk)]
      simp [idxOf_get hnd hki]
     ·obtain ⟨v, h1, h2, h3, B, h4, h5, h6⟩ := hcs j m (p.ren (fwd pi st.objs.length)) (by rw [hce]; simp [renC, hj])
      have hp : p.okn oc.length = true := by
       have h7 := List.all_eq_true.1 hoko cs (List.mem_of_getElem? hk)
       exact List.all_eq_true.1 h7 (m, p) (List.mem_of_getElem? hj)
      refine ⟨v, h1, h2, h3, B, RP.down (Z := Fz ow) (φ := φ) (n := st.objs.length) (f := fwd pi st.objs.length) (fun b hb => (frzc b).2 hb) (fun o _ => rfl) m p v B hp h4, h5, fun b hb => ?_⟩
      simp only [owc, h6 b hb, downO]
      rw [if_pos (by rw [← hS]; exact labsOf_ce hki hk (lt_of_get hj))]
      simp [idxOf_get hnd hki]
    have hbc : ∀ b, owc b ≠ .free → b < w.heap.size := by
     intro b hb
     refine hr.bnd b fun e => hb ?_
     simp only [owc, e, downO]
    obtain ⟨v, w', owc', φc', hcall, hm, hφ, _, hrv, hobj', hbnd'⟩ := hf w owc φc _ hargs hobjs hbc
    -- and back
    let ow' : Nat → Lab := fun b => if b < w.heap.size ∧ owc b = .free then ow b else upL (fwd pi st.objs.length) d (owc' b)
    let φ' : Nat → Nat := fun i => if i < st.objs.length then φ i else φc' (pi.length + (i - st.objs.length))
    have hφ' : ∀ i, i < st.objs.length → φ' i = φ i := fun i hi => by simp only [φ']; rw [if_pos hi]
    have keepfree : ∀ b, b < w.heap.size ∧ owc b = .free → owc' b = .free := fun b hb => (hm.keep b hb.1 (.inl hb.2)).2.trans hb.2
    have frz' : ∀ b, Fz owc' b → Fz ow' b := by
     intro b hb
     have hb : owc' b = .frz := hb
     show ow' b = .frz
     simp only [ow']
     rw [if_neg (fun h => by rw [keepfree b h] at hb; cases hb), upL_frz.2 hb]
    have hbx0 : ∀ l, (∀ i j, l ≠ .bx i ∧ l ≠ .ce i j) → (∀ t, l ≠ .sl t) → l ∉ S' := by
     intro l hl hl2 hm
     rw [← hS', List.mem_append] at hm
     rcases hm with hm | hm
     ·rw [← hS] at hm
      obtain ⟨_, i, _, _, _, e | ⟨j, _, e⟩⟩ := mem_labsOf hm
      ·exact (hl i 0).1 e
      ·exact (hl i j).2 e
     ·obtain ⟨e, _, rfl⟩ := List.mem_map.1 hm
      exact hl2 _ rfl
    have hbxS : ∀ l, (∀ t, l ≠ .sl t) → l ∉ S → l ∉ S' := by
     intro l hl hn hm
     rw [← hS', List.mem_append] at hm
     rcases hm with hm | hm
     ·exact hn hm
     ·obtain ⟨e, _, rfl⟩ := List.mem_map.1 hm
      exact hl _ rfl
    have hk : Keep S' w ow w' ow' := by
     refine ⟨hm.os, hm.tape, hm.output, hm.size, fun b h1 h2 => ?_, fun b h1 h2 => ?_⟩
     ·have hc0 : owc b = .free := freec b (by rw [h2]; simp) (by
       rw [h2]; exact hbx0 _ (by simp) (by simp))
      refine ⟨(hm.keep b h1 (.inl hc0)).1, ?_⟩
      simp only [ow']; rw [if_pos ⟨h1, hc0⟩]; exact h2
     ·have hb := hr.bnd b h1
      by_cases hz : ow b = .frz
      ·have hz' := (frzc b).2 hz
       obtain ⟨k1, k2⟩ := hm.keep b hb (.inr hz')
       exact ⟨k1, by rw [hz]; exact frz' b (k2.trans hz')⟩
      ·have hc0 := freec b hz h2
       refine ⟨(hm.keep b hb (.inl hc0)).1, ?_⟩
       simp only [ow']; rw [if_pos ⟨hb, hc0⟩]
    have hup : ∀ o, o < oc'.length → φ' (fwd pi st.objs.length o) = φc' o ∧ fwd pi st.objs.length o < (newObjs st.objs pi oc').length := by
     intro o ho
     rw [hnl]
     rcases Nat.lt_or_ge o pi.length with hol | hol
     ·obtain ⟨i, hki⟩ : ∃ i, pi[o]? = some i := ⟨_, List.getElem?_eq_getElem hol⟩
      have hi := hpi o i hki
      rw [hfw o i hki]
      refine ⟨?_, by omega⟩
      rw [hφ' i hi, hφ o (by omega)]
      simp only [φc]; rw [hfw o i hki]
     ·rw [hfw2 o hol]
      refine ⟨?_, by omega⟩
      simp only [φ']; rw [if_neg (by omega)]
      congr 1; omega
    have hownB : ∀ {B : List Nat} {l : Lab}, l ≠ .free → (∀ b ∈ B, owc' b = l) → ∀ b ∈ B, ow' b = upL (fwd pi st.objs.length) d l := by
     intro B l hl hB b hb
     simp only [ow']
     rw [if_neg (fun h => hl (by rw [← hB b hb]; exact keepfree b h)), hB b hb]
    have hv' : RIt w' ow' φ' (newObjs st.objs pi oc').length (putO ts (some d) v) d it := by
     refine ⟨v, putO_same (by rw [hr.tsz]; exact hN), ?_⟩
     cases res with
     | v m p =>
      simp only [resRen] at hres; cases hres
      obtain ⟨B, h1, h2, h3⟩ := hrv
      exact ⟨B, RP.up frz' hup m p v B h1, h2, hownB (by simp) h3⟩
     | nils => simp only [resRen] at hres; cases hres; exact hrv
     | ap s xs =>
      simp only [resRen] at hres; cases hres
      rcases hrv with ⟨B, h1, h2, h3⟩ | ⟨a, h1, h2⟩
      ·refine .inl ⟨B, ?_, h2, hownB (by simp) h3⟩
       have := RP.up frz' hup 1 (.d (.sl s xs)) v B h1
       simpa only [PV.ren] using this
      ·exact .inr ⟨a, h1, RD.mono (fun _ _ => rfl) frz' 0 _ _ [] (by simp) h2⟩
     | tup qs =>
      simp only [resRen] at hres; cases hres
      obtain ⟨vs, B, h1, h2, h3, h4⟩ := hrv
      exact ⟨vs, B, h1, RTup.up frz' hup qs _ B h2, h3, hownB (by simp) h4⟩
     | _ => simp [resRen] at hres
    refine ⟨w', ow', φ', v, ?_, hk.mods (hbx0 _ (by simp) (by simp)), hφ', ?_⟩
    ·rw [hd]
     refine Rel.step (S := S') (new := [(d, it)]) hr hk (hbx0 _ (by simp) (by simp)) (hbx0 _ (by simp) (by simp)) (hbx0 _ (by simp) (by simp)) hφ' (by rw [hnl]; omega) ?_ ?_ ?_
     ·intro e' he'
      obtain rfl := List.mem_singleton.1 he'
      exact hv'
     ·intro i cs hc
      have key : ∀ k c, fwd pi st.objs.length k = i → oc'[k]? = some c → cs = renC (fwd pi st.objs.length) c → RObj w' ow' φ' (newObjs st.objs pi oc').length i cs := by
       intro k c hki hkc hcs
       obtain ⟨x, e, hh, hsz, hl, hcell⟩ := hobj' k c hkc
       have hφi : φ' i = φc' k := by rw [← hki]; exact (hup k (lt_of_get hkc)).1
       refine ⟨x, e, by rw [hφi]; exact hh, by rw [hsz, hcs]; simp [renC], ?_, fun j m p hj => ?_⟩
       ·rw [hφi]
        have := hownB (B := [φc' k]) (l := .bx k) (by simp) (by simpa using hl) (φc' k) (by simp)
        rw [this]; simp [upL, hki]
       ·rw [hcs] at hj
        simp only [renC, List.getElem?_map, Option.map_eq_some_iff] at hj
        obtain ⟨⟨m', p'⟩, h6, h7⟩ := hj
        obtain ⟨rfl, rfl⟩ := Prod.mk.inj h7
        obtain ⟨u, h1, h2, h3, B, h4, h5, h8⟩ := hcell j m' p' h6
        refine ⟨u, h1, h2, h3, B, RP.up frz' hup m' p' u B h4, h5, ?_⟩
        have := hownB (l := .ce k j) (by simp) h8
        simpa [upL, hki] using this
      simp only [newObjs] at hc
      rcases Nat.lt_or_ge i st.objs.length with hi | hi
      ·rw [List.getElem?_append_left (by rw [setAll_length]; exact hi)] at hc
       rcases setAll_get _ _ _ i cs (by simp; omega) hc with ⟨h1, h2⟩ | ⟨k, h1, h2⟩
       ·refine .inl ⟨cs, h2, rfl, ?_, fun j m p _ => .inr ?_⟩
        ·refine hbxS _ (by simp) ?_
         rw [← hS]; intro hm
         obtain ⟨k, i', _, h3, _, e | ⟨_, _, e⟩⟩ := mem_labsOf hm <;> cases e
         exact h1 (List.mem_of_getElem? h3)
        ·refine hbxS _ (by simp) ?_
         rw [← hS]; intro hm
         obtain ⟨k, i', _, h3, _, e | ⟨_, _, e⟩⟩ := mem_labsOf hm <;> cases e
         exact h1 (List.mem_of_getElem? h3)
       ·simp only [List.getElem?_map, Option.map_eq_some_iff] at h2
        obtain ⟨c, h3, h4⟩ := h2
        refine .inr (key k c (hfw k i h1) ?_ h4.symm)
        rw [List.getElem?_take] at h3
        split at h3
        ·exact h3
        ·cases h3
      ·rw [List.getElem?_append_right (by rw [setAll_length]; exact hi), setAll_length] at hc
       simp only [List.getElem?_map, Option.map_eq_some_iff, List.getElem?_drop] at hc
       obtain ⟨c, h3, h4⟩ := hc
       exact .inr (key _ c (by rw [hfw2 _ (by omega)]; omega) h3 h4.symm)
     ·intro b hb
      by_cases hz : b < w.heap.size
      ·exact Nat.lt_of_lt_of_le hz hm.size
      ·refine hbnd' b fun e => hb ?_
       simp only [ow']; rw [if_neg (fun h => hz h.1), e]; rfl
    ·have e : (args.toList.map (evalT ts)).toArray = args.map (evalT ts) := by
      apply Array.toList_inj.1
      simp
     rw [e] at hcall
     refine OpTo.enter (f := f) (args := args.map (evalT ts)) (w1 := w) (by intro c hc; rw [hop] at hc; cases hc) ?_ hcall
     have hcf : (callFunc f (args.map (evalT ts))).run P w = .ok (.enter f (args.map (evalT ts))) w := by
      have h1 : fn.name ≠ "runtime.NumGoroutine" := by simpa using hfname
      have h2 : fn.body ≠ none := by intro e; rw [e] at hfb; simp at hfb
      simp [callFunc, hfn, h1, h2]
     simp [execOp, hop, resolve, invoke, hxv, Deferred.ofValue, hcf]
   ·cases he
  ·cases he
 ·cases he
end


mutual
def D.Cl : Nat → D → Prop
  | 0, .sl _ xs => xs = []
  | m + 1, .sl _ xs => RXCl m xs
  | _, _ => True
def RCCl : Nat → List D → Prop
  | _, [] => True
  | m, c :: cs => D.Cl m c ∧ RCCl m cs
def RXCl : Nat → List (List D) → Prop
  | _, [] => True
  | m, x :: xs => RCCl m x ∧ RXCl m xs
end
mutual
theorem RD.cl {w : World} {Z : Nat → Prop} : ∀ (m : Nat) (x : D) (v : Value) (B : List Nat), D.Cl m x → RD w Z m x v B → RD w (fun _ => False) m x v B
  | _, .int k n, v, B, hc, h => by simpa only [RD] using h
  | _, .bool b, v, B, hc, h => by simpa only [RD] using h
  | _, .str s, v, B, hc, h => by simpa only [RD] using h
  | _, .any, v, B, hc, h => by simpa only [RD] using h
  | _, .nl s, v, B, hc, h => by simpa only [RD] using h
  | 0, .sl s xs, v, B, hc, h => by
    simp only [D.Cl] at hc
    subst hc
    simp only [RD] at h ⊢
    obtain ⟨hB, hs, a, cap, hv, hl, hp, hn, hx⟩ := h
    exact ⟨hB, hs, a, cap, hv, hl, hp, hn, fun hne => absurd rfl hne⟩
  | m + 1, .sl s xs, v, B, hc, h => by
    simp only [D.Cl] at hc
    simp only [RD] at h ⊢
    obtain ⟨hs, h⟩ := h
    refine ⟨hs, ?_⟩
    rcases h with h | ⟨blk, off, cap, c, e, B', hv, hl, hh, ho, hB, hr⟩
    · exact .inl h
    · exact .inr ⟨blk, off, cap, c, e, B', hv, hl, hh, ho, hB, RX.cl m s xs blk off B' hc hr⟩
theorem RC.cl {w : World} {Z : Nat → Prop} : ∀ (m : Nat) (cs : List D) (g : Nat → Option Value) (off : Nat) (B : List Nat), RCCl m cs → RC w Z m cs g off B → RC w (fun _ => False) m cs g off B
  | _, [], g, off, B, hc, h => by simpa only [RC] using h
  | m, c :: cs, g, off, B, hc, h => by
    simp only [RC, RCCl] at h hc ⊢
    obtain ⟨v, B1, B2, hg, hB, h1, h2⟩ := h
    exact ⟨v, B1, B2, hg, hB, RD.cl m c v B1 hc.1 h1, RC.cl m cs g (off + 1) B2 hc.2 h2⟩
theorem RX.cl {w : World} {Z : Nat → Prop} : ∀ (m s : Nat) (xs : List (List D)) (blk off : Nat) (B : List Nat), RXCl m xs → RX w Z m s xs blk off B → RX w (fun _ => False) m s xs blk off B
  | _, _, [], blk, off, B, hc, h => by simpa only [RX] using h
  | m, s, x :: xs, blk, off, B, hc, h => by
    simp only [RX, RXCl] at h hc ⊢
    obtain ⟨B1, B2, hl, hB, h1, h2⟩ := h
    exact ⟨B1, B2, hl, hB, RC.cl m x _ off B1 hc.1 h1, RX.cl m s xs blk (off + s) B2 hc.2 h2⟩
end
theorem cl_map {α : Type} {m : Nat} {e : α → List D} (h : ∀ x, RCCl m (e x)) : ∀ xs : List α, RXCl m (List.map e xs)
  | [] => trivial
  | x :: xs => ⟨h x, cl_map h xs⟩
def It.Cl : It → Prop
  | .v m (.d x) => D.Cl m x
  | .v m (.agg cs) => RCCl m cs
  | _ => False
def argL (env : Env) (objs : Objs) (x : Operand) (a : Option PV) : Option PV := match opd env x with
  | some (.v 0 p) => some p
  | some (.v (m + 1) p) => (match x with
    | .tmp _ => some p
    | _ => none)
  | some (.kb b) => some (.d (.bool b))
  | some .nils => (match a with
    | some (.d (.sl s _)) => if Nat.ble 1 s = true then some (.d (.sl s [])) else none
    | _ => none)
  | some (.ap s xs) => (match x with
    | .tmp _ => some (.d (.sl s xs))
    | _ => none)
  | some (.b (.slot q)) => (match look env q with
    | some (.v m p) => some p
    | some (.ap s xs) => some (.d (.sl s xs))
    | _ => none)
  | some (.b (.obj i j)) => (match (objs[i]?).bind (·[j]?) with
    | some (m, p) => some p
    | none => none)
  | _ => none
def argsL (env : Env) (objs : Objs) : List Operand → List PV → Option (List PV)
  | [], _ => some []
  | x :: xs, as => match argL env objs x as.head?, argsL env objs xs as.tail with
    | some p, some ps => some (p :: ps)
    | _, _ => none
def dOf : Nat × PV → Option D
  | (_, .d x) => some x
  | _ => none
def dcOf : List (Nat × PV) → Option (List D)
  | [] => some []
  | c :: cs => match dOf c, dcOf cs with
    | some x, some xs => some (x :: xs)
    | _, _ => none
theorem dcOf_get : ∀ {cs : List (Nat × PV)} {xs : List D}, dcOf cs = some xs → cs.length = xs.length ∧ ∀ (j : Nat) (x : D), xs[j]? = some x → ∃ m, cs[j]? = some (m, .d x)
  | [], xs, h => by simp only [dcOf] at h; cases h; simp
  | c :: cs, xs, h => by
    simp only [dcOf] at h
    split at h
    · rename_i x ys h1 h2
      cases h
      obtain ⟨k1, k2⟩ := dcOf_get h2
      refine ⟨by simp [k1], fun j y hj => ?_⟩
      cases j with
      | zero =>
        simp at hj; subst hj
        obtain ⟨m, p⟩ := c
        cases p <;> simp [dOf] at h1
        subst h1
        exact ⟨m, rfl⟩
      | succ j => simpa using k2 j y (by simpa using hj)
    · cases h
def closP (objs : Objs) (m : Nat) : PV → Option PV
  | .ptr o off => if Nat.blt o m = true then some (.ptr o off) else match objs[o]? with
    | some cs => match dcOf cs with
      | some xs => some (.fp (xs.drop off))
      | none => none
    | none => none
  | .d x => some (.d x)
  | .fp cs => some (.fp cs)
  | .nilp => some .nilp
  | .nilfn => some .nilfn
  | _ => none
def closPs (objs : Objs) (m : Nat) : List PV → Option (List PV)
  | [] => some []
  | p :: ps => match closP objs m p, closPs objs m ps with
    | some q, some qs => some (q :: qs)
    | _, _ => none
def evLend (P : Program) (N : Nat) (st : St) (o : Oper) (orc : List Orc) : Ev :=
  match o.op, o.dst, orc with
  | .call { callee := .value x, args, argTypes := _ }, some d, .halt :: .call _ as _ _ res :: orc' =>
    match calleeOf (opd st.env x), argsL st.env st.objs args.toList as with
    | some (f, fst, cap0), some ps => match closPs st.objs 0 cap0 with
     | none => none
     | some cap => if (Nat.blt d N && PV.okns 0 (fst ++ (ps ++ cap))) = true then
        some (setE st d res, [FunJ P f (fst ++ (ps ++ cap)) [] res [], It.Cl res], orc')
      else none
    | _, _ => none
  | _, _, _ => none
def lendL (l : Lab) : Lab := match l with
  | .free => .free
  | .mk => .free
  | .ext => .free
  | _ => .frz
section
variable {P : Program} {T : Tab} {N : Nat} {st st' : St} {o : Oper} {orc orc' : List Orc} {obs : List Prop}
theorem Own.lend {w : World} {ow : Nat → Lab} {φ : Nat → Nat} {n m : Nat} {p : PV} {v : Value} {l : Lab} (hl : m = 0 ∨ lendL l = .frz) (h : Own w ow φ n m p v l) :
    RP w (Fz (fun b => lendL (ow b))) φ n 0 p v [] := by
  obtain ⟨B, hB, _, hb⟩ := h
  refine RP.freeze (fun b hb => by simp only [Fz] at hb ⊢; rw [hb]; rfl) (fun b hm => ?_) hB
  rcases hl with rfl | hl
  · rw [RP.zeroB hB] at hm; simp at hm
  · simp only [Fz]; rw [hb b hm]; exact hl
theorem RV.lend {w : World} {ow : Nat → Lab} {φ : Nat → Nat} {n : Nat} {ts : Array Value} {l : Lab} {s : Nat} {xs : List (List D)} {v : Value} (hl : lendL l = .frz) (h : RV w ow φ n ts l (.ap s xs) v) :
    RP w (Fz (fun b => lendL (ow b))) φ n 0 (.d (.sl s xs)) v [] := by
  rcases h with h | ⟨a, hv, hrd⟩
  · exact Own.lend (.inr hl) h
  · rw [hv]; simp only [RP]
    exact RD.mono (fun _ _ => rfl) (fun b hb => by simp only [Fz] at hb ⊢; rw [hb]; rfl) 0 _ _ [] (by simp) hrd
theorem argL_sound {w : World} {ow : Nat → Lab} {φ : Nat → Nat} {ts : Array Value} (h : Rel N w ow φ ts st) {x : Operand} {a : Option PV} {p : PV} (ha : argL st.env st.objs x a = some p) :
    RP w (Fz (fun b => lendL (ow b))) φ st.objs.length 0 p (evalT ts x) [] := by
  unfold argL at ha
  split at ha
  · rename_i p' hx
    cases ha
    exact Own.lend (.inl rfl) (opd_rel h hx)
  · rename_i m p' hx
    split at ha
    · rename_i r
      cases ha
      exact Own.lend (.inr rfl) (opd_rel h hx)
    · cases ha
  · rename_i b hx
    cases ha
    have : evalT ts x = .bool b := opd_rel h hx
    simp [RP, RD, this]
  · rename_i hx
    split at ha
    · rename_i s ys
      split at ha
      · rename_i hs
        cases ha
        have hr := opd_rel h hx
        simp only [RV] at hr
        simp only [RP, RD, hr]
        exact ⟨trivial, by simpa [Nat.ble_eq] using hs, none, 0, rfl, by simp, by simp, by simp, by simp⟩
      · cases ha
    · cases ha
  · rename_i s xs hx
    split at ha
    · rename_i r
      cases ha
      exact RV.lend rfl (opd_rel h hx)
    · cases ha
  · rename_i q hx
    have hq : ts[q]? = some (evalT ts x) := opd_rel h hx
    split at ha
    · rename_i m p' hl
      cases ha
      obtain ⟨v, hv1, hv2⟩ := h.env _ _ (look_mem hl)
      rw [hq] at hv1; cases hv1
      exact Own.lend (.inr rfl) hv2
    · rename_i s xs hl
      cases ha
      obtain ⟨v, hv1, hv2⟩ := h.env _ _ (look_mem hl)
      rw [hq] at hv1; cases hv1
      exact RV.lend rfl hv2
    · cases ha
  · rename_i i j hx
    have hq := opd_rel h hx
    simp only [RV, Pl.Hd] at hq
    split at ha
    · rename_i m p' hl
      cases ha
      obtain ⟨cs, hcs, hj⟩ := Option.bind_eq_some_iff.1 hl
      obtain ⟨c, e, hh, hsz, hlb, hcell⟩ := h.objs i cs hcs
      obtain ⟨v, h1, h2, h3, h4⟩ := hcell j _ _ hj
      have : evalT ts x = v := by
        have h5 := hq.2.2
        simp only [mem, World.cell?, hh] at h5
        simp_all
      rw [this]
      exact Own.lend (.inr rfl) h4
    · cases ha
  · cases ha
theorem argsL_sound {w : World} {ow : Nat → Lab} {φ : Nat → Nat} {ts : Array Value} (h : Rel N w ow φ ts st) : ∀ {xs : List Operand} {as ps : List PV}, argsL st.env st.objs xs as = some ps →
    RPs w (Fz (fun b => lendL (ow b))) φ st.objs.length ps (xs.map (evalT ts))
  | [], as, ps, ha => by simp only [argsL] at ha; cases ha; simp [RPs]
  | x :: xs, as, ps, ha => by
    simp only [argsL] at ha
    split at ha
    · rename_i p ps' h1 h2
      cases ha
      simp only [RPs, List.map_cons]
      exact ⟨_, _, rfl, argL_sound h h1, argsL_sound h h2⟩
    · cases ha
theorem It.Cl.own {w : World} {ow ow' : Nat → Lab} {φ φ' : Nat → Nat} {n : Nat} {ts : Array Value} {l l' : Lab} {it : It} {v : Value} (hc : It.Cl it) (hl : ∀ b, ow b = l → ow' b = l') (h : RV w ow φ n #[] l it v) : RV w ow' φ' 0 ts l' it v := by
  cases it with
  | v m p =>
    obtain ⟨B, hB, hn, hb⟩ := h
    refine ⟨B, ?_, hn, fun b hm => hl b (hb b hm)⟩
    cases p with
    | d x =>
      simp only [RP] at hB ⊢
      exact RD.mono (fun b hb => hb.elim) (fun b hb => hb.elim) m x v B (fun _ _ => rfl) (RD.cl m x v B hc hB)
    | agg cs =>
      simp only [RP] at hB ⊢
      obtain ⟨vs, hv, hs, hB⟩ := hB
      exact ⟨vs, hv, hs, RC.mono (fun b hb => hb.elim) (fun b hb => hb.elim) m cs _ 0 B (fun _ _ => rfl) (RC.cl m cs _ 0 B hc hB)⟩
    | _ => exact hc.elim
  | _ => exact hc.elim
theorem lend_frz {ow : Nat → Lab} (b : Nat) : Fz ow b → Fz (fun b => lendL (ow b)) b := fun hb => by simp only [Fz] at hb ⊢; rw [hb]; rfl
theorem closL_ok {w : World} {ow : Nat → Lab} {φ : Nat → Nat} {ts : Array Value} (h : Rel N w ow φ ts st) {p q : PV} {v : Value} (hp : closP st.objs 0 p = some q) (hr : RP w (Fz ow) φ st.objs.length 0 p v []) : RP w (Fz fun b => lendL (ow b)) φ st.objs.length 0 q v [] := by
  unfold closP at hp
  split at hp
  · rename_i o off
    split at hp
    · rename_i hlt
      simp [Nat.blt_eq] at hlt
    · split at hp
      · rename_i cs hc
        split at hp
        · rename_i xs hx
          cases hp
          simp only [RP] at hr ⊢
          obtain ⟨c, e, hh, hsz, hl, hcs⟩ := h.objs o cs hc
          refine ⟨φ o, off, hr.1, trivial, by simp only [Fz, hl, lendL], ?_⟩
          have key : RC w (Fz fun b => lendL (ow b)) 0 xs (mem w (φ o)) 0 [] := by
            refine RC.of0 fun j x hj => ?_
            obtain ⟨mm, hj2⟩ := (dcOf_get hx).2 j x hj
            obtain ⟨u, u1, _, _, B, hB, _, hl2⟩ := hcs j _ _ hj2
            simp only [RP] at hB
            refine ⟨u, by simp only [mem, World.cell?, hh]; simpa using u1, RD.freeze (lend_frz) mm x u B (fun b hb => ?_) hB⟩
            simp only [Fz, hl2 b hb, lendL]
          have := RC.drop 0 xs 0 off key
          simpa using this
        · cases hp
      · cases hp
  · cases hp; simp only [RP] at hr ⊢; exact RD.mono (fun _ _ => rfl) lend_frz 0 _ v [] (by simp) hr
  · cases hp; simp only [RP] at hr ⊢; obtain ⟨b, off, h1, h2, h3, h4⟩ := hr; exact ⟨b, off, h1, h2, lend_frz b h3, RC.mono (fun _ _ => rfl) lend_frz 0 _ _ off [] (by simp) h4⟩
  · cases hp; simpa only [RP] using hr
  · cases hp; simpa only [RP] using hr
  · cases hp
theorem closLs_ok {w : World} {ow : Nat → Lab} {φ : Nat → Nat} {ts : Array Value} (h : Rel N w ow φ ts st) : ∀ {ps qs : List PV} {vs : List Value}, closPs st.objs 0 ps = some qs → RPs w (Fz ow) φ st.objs.length ps vs → RPs w (Fz fun b => lendL (ow b)) φ st.objs.length qs vs
  | [], qs, vs, hp, hr => by simp only [closPs] at hp; cases hp; simpa only [RPs] using hr
  | p :: ps, qs, vs, hp, hr => by
    simp only [closPs] at hp
    split at hp
    · rename_i q qs' h1 h2
      cases hp
      simp only [RPs] at hr ⊢
      obtain ⟨v, vs', hv, r1, r2⟩ := hr
      exact ⟨v, vs', hv, closL_ok h h1 r1, closLs_ok h h2 r2⟩
    · cases hp
theorem evLend_sound (he : evLend P N st o orc = some (st', obs, orc')) (ho : AllP obs) : Good P N o st st' := by
  unfold evLend at he
  split at he
  · rename_i x args at' d pi as oc oc' res orc1 hop hd
    split at he
    · rename_i f fst cap0 ps hx ha
      split at he
      · cases he
      rename_i cap hcap
      split at he
      · rename_i hcc
        cases he
        simp only [Bool.and_eq_true, Nat.blt_eq] at hcc
        obtain ⟨hN, hoka⟩ := hcc
        obtain ⟨⟨⟨fn, hfn, hfb, hfname⟩, hf⟩, hcl, _⟩ := ho
        refine ⟨fun w ow φ ts hr => ?_, Nat.le_refl _, rfl⟩
        obtain ⟨us0, us, hxv, hus0, hus⟩ := calleeOf_sound hr hx
        have hz : ∀ b, Fz ow b → Fz (fun b => lendL (ow b)) b := fun b hb => by simp only [Fz] at hb ⊢; rw [hb]; rfl
        have hargs : RPs w (Fz (fun b => lendL (ow b))) φ st.objs.length (fst ++ (ps ++ cap)) (us0 ++ (args.toList.map (evalT ts) ++ us)) := by
          exact RPs.append (RPs.mono (fun _ _ => rfl) hz (fun _ _ => rfl) (Nat.le_refl _) _ _ hus0) (RPs.append (argsL_sound hr ha) (closLs_ok hr hcap hus))
        obtain ⟨v, w', owc', φc', hcall, hm, _, _, hrv, _, hbnd'⟩ := hf w (fun b => lendL (ow b)) φ _ (RPs.any0 _ _ hoka hargs) (by simp) (fun b hb => hr.bnd b fun e => hb (by rw [e]; rfl))
        have old : ∀ b, b < w.heap.size → w'.heap[b]? = w.heap[b]? ∧ owc' b = lendL (ow b) := fun b hb => hm.keep b hb (by
          show lendL (ow b) = .free ∨ lendL (ow b) = .frz
          cases ow b <;> simp [lendL])
        let ow' : Nat → Lab := fun b => if b < w.heap.size then ow b else if owc' b = .sl 0 then .sl d else .free
        have hk : Keep [] w ow w' ow' := by
          refine ⟨hm.os, hm.tape, hm.output, hm.size, fun b hb hf => ⟨(old b hb).1, ?_⟩, fun b hb _ => ?_⟩
          · show (if b < w.heap.size then ow b else _) = _
            rw [if_pos hb]; exact hf
          · have hb := hr.bnd b hb
            refine ⟨(old b hb).1, ?_⟩
            show (if b < w.heap.size then ow b else _) = _
            rw [if_pos hb]
        have hdt : d < ts.size := by rw [hr.tsz]; exact hN
        have hres : RV w' ow' φ st.objs.length (putO ts (some d) v) (.sl d) res v := by
          have h0 : ∀ n, RV w' ow' φ n (putO ts (some d) v) (.sl d) res v := by
            intro n
            have := It.Cl.own (ow' := ow') (φ' := φ) (ts := putO ts (some d) v) (l' := .sl d) hcl (fun b hb => by
              by_cases hlt : b < w.heap.size
              · exfalso
                have := (old b hlt).2
                rw [hb] at this
                revert this
                cases ow b <;> simp [lendL]
              · show (if b < w.heap.size then ow b else if owc' b = .sl 0 then .sl d else .free) = _
                rw [if_neg hlt, if_pos hb]) hrv
            cases res with
            | v m p =>
              obtain ⟨B, hB, hn, hb⟩ := this
              refine ⟨B, ?_, hn, hb⟩
              exact RP.mono (fun _ _ => rfl) (fun _ h => h) (fun _ _ => rfl) (Nat.zero_le _) m p v B (fun _ _ => rfl) hB
            | _ => exact hcl.elim
          exact h0 _
        refine ⟨w', ow', φ, v, ?_, hk.mods (by simp), fun _ _ => rfl, ?_⟩
        · rw [hd]
          refine Rel.step (S := []) (new := [(d, res)]) hr hk (by simp) (by simp) (by simp) (fun _ _ => rfl) (Nat.le_refl _) ?_ ?_ ?_
          · intro e he
            obtain rfl := List.mem_singleton.1 he
            exact ⟨v, putO_same hdt, hres⟩
          · intro i cs hc
            exact .inl ⟨cs, hc, rfl, by simp, fun j m p _ => .inr (by simp)⟩
          · intro b hb
            by_cases hlt : b < w.heap.size
            · exact Nat.lt_of_lt_of_le hlt hm.size
            · refine hbnd' b fun e => hb ?_
              show (if b < w.heap.size then ow b else if owc' b = .sl 0 then .sl d else .free) = _
              rw [if_neg hlt, e]; rfl
        · have e : (us0 ++ (args.toList.map (evalT ts) ++ us)).toArray = us0.toArray ++ (args.map (evalT ts) ++ us.toArray) := by
            apply Array.toList_inj.1
            simp
          rw [e] at hcall
          refine OpTo.enter (f := f) (args := us0.toArray ++ (args.map (evalT ts) ++ us.toArray)) (w1 := w) (by intro c hc; rw [hop] at hc; cases hc) ?_ hcall
          have hcf : (callFunc f (us0.toArray ++ (args.map (evalT ts) ++ us.toArray))).run P w = .ok (.enter f (us0.toArray ++ (args.map (evalT ts) ++ us.toArray))) w := by
            have h1 : fn.name ≠ "runtime.NumGoroutine" := by simpa using hfname
            have h2 : fn.body ≠ none := by intro e; rw [e] at hfb; simp at hfb
            simp [callFunc, hfn, h1, h2]
          simp [execOp, hop, resolve, invoke, hxv, Deferred.ofValue, hcf]
      · cases he
    · cases he
  · cases he
end


def evOp (P : Program) (T : Tab) (N : Nat) (st : St) (o : Oper) (orc : List Orc) : Ev :=
 match o.op with
 | .call { callee := .value _, args := _, argTypes := _ } => match orc with
  | .yld _ _ _ :: _ => evYld P N st o orc
  | .seg _ :: _ => evCallO P N st o orc
  | .halt :: _ => evLend P N st o orc
  | .it _ :: _ => evCall0 P N st o orc
  | _ => evCall P N st o orc
 | .makeFunc _ _ _ => evFn N st o orc
 | _ => match orc with
  | .seg _ :: _ => orE (evSB T N st o orc) (orE (evRows P T N st o orc) (orE (evStr T N st o orc) (orE (evArr P T N st o orc) (orE (evOp0 P T N st o orc) (evMore P T N st o orc)))))
  | _ => orE (evOp0 P T N st o orc) (evMore P T N st o orc)
def evOps (P : Program) (T : Tab) (N : Nat) (ops : Array Oper) : Nat → List Nat → St → List Orc → Ev
 | 0, _, _, _ => none
 | n + 1, l, st, orc =>
  match (match orc with
   | c :: orc1 => match evConv st c with
    | some (st1, obs1) => some (st1, obs1, orc1)
    | none => none
   | [] => none : Ev) with
  | some (st1, obs1, orc1) => match evOps P T N ops n l st1 orc1 with
   | some (st2, obs2, orc2) => some (st2, obs1 ++ obs2, orc2)
   | none => none
  | none => match l with
   | [] => some (st, [], orc)
   | i :: l' => match ops[i]? with
    | none => none
    | some o => match wants ops st.env o with
     | some true => match evOp P T N st o orc with
      | some (st1, obs1, orc1) => match evOps P T N ops n l' st1 orc1 with
       | some (st2, obs2, orc2) => some (st2, obs1 ++ obs2, orc2)
       | none => none
      | none => none
     | some false => match o.dst with
      | some d => if Nat.blt d N = true then evOps P T N ops n l' { st with env := (d, .tup []) :: st.env.filter (keeps (some d) []) } orc else none
      | none => none
     | none => none
section
variable {P : Program} {T : Tab} {N : Nat}
theorem evOp_sound (hT : TOK P T) {st st' : St} {o : Oper} {orc orc' : List Orc} {obs : List Prop} (he : evOp P T N st o orc = some (st', obs, orc')) (ho : AllP obs) : Good P N o st st' := by
 unfold evOp at he
 split at he
 ·split at he
  ·exact evYld_sound he ho
  ·exact evCallO_sound he ho
  ·exact evLend_sound he ho
  ·exact evCall0_sound he ho
  ·exact evCall_sound he ho
 ·exact evFn_sound he
 ·split at he
  ·rcases orE_or he with he | he
   ·exact evSB_sound hT he ho
   rcases orE_or he with he | he
   ·exact evRows_sound hT he ho
   rcases orE_or he with he | he
   ·exact evStr_sound hT he ho
   ·rcases orE_or he with he | he
    ·exact evArr_sound hT he ho
    ·rcases orE_or he with he | he
     ·exact evOp0_sound hT he ho
     ·exact evMore_sound hT he ho
  ·rcases orE_or he with he | he
   ·exact evOp0_sound hT he ho
   ·exact evMore_sound hT he ho
theorem evOps_sound (hT : TOK P T) {ops : Array Oper} : ∀ {n : Nat} {l : List Nat} {st st' : St} {orc orc' : List Orc} {obs : List Prop}, evOps P T N ops n l st orc = some (st', obs, orc') → AllP obs → OpsJ P N ops l st st'
 | 0, l, st, st', orc, orc', obs, he, ho => by simp [evOps] at he
 | n + 1, l, st, st', orc, orc', obs, he, ho => by
  simp only [evOps] at he
  split at he
  ·rename_i st1 obs1 orc1 hc
   split at hc
   ·rename_i c orcs
    split at hc
    ·rename_i hcv
     cases hc
     split at he
     ·rename_i h2
      cases he
      obtain ⟨o1, o2⟩ := AllP.append.1 ho
      exact OpsJ.conv (evConv_sound hcv o1) (evOps_sound hT h2 o2)
     ·cases he
    ·cases hc
   ·cases hc
  ·split at he
   ·cases he
    exact OpsJ.nil
   ·rename_i i l'
    split at he
    ·cases he
    ·rename_i o hio
     split at he
     ·rename_i hw
      split at he
      ·rename_i st1 obs1 orc1 h1
       split at he
       ·rename_i st2 obs2 orc2 h2
        cases he
        obtain ⟨o1, o2⟩ := AllP.append.1 ho
        obtain ⟨g1, g2, g3⟩ := evOp_sound hT h1 o1
        exact OpsJ.go hio hw g1 g2 g3 (evOps_sound hT h2 o2)
       ·cases he
      ·cases he
     ·rename_i hw
      split at he
      ·rename_i d hd
       split at he
       ·rename_i hN
        exact OpsJ.skip hio hd hw (by simpa [Nat.blt_eq] using hN) (evOps_sound hT he ho)
       ·cases he
      ·cases he
     ·cases he
end


section
variable {P : Program} {T : Tab} {N : Nat}
theorem RIt.stable {w w' : World} {ow ow' : Nat → Lab} {φ φ' : Nat → Nat} {n : Nat} {ts ts' : Array Value} {t : Nat} {it : It} (hm : Mods w ow w' ow') (hb : ∀ b, ow b ≠ .free → b < w.heap.size) (hφ : ∀ i, i < n → φ' i = φ i)
  (hd : it.deps (.sl t) = []) (ht : ts'[t]? = ts[t]?) (hbase : ∀ t', it.base = some t' → ts'[t']? = ts[t']?) (h : RIt w ow φ n ts t it) : RIt w' ow' φ' n ts' t it := by
 have z : ∀ b, Fz ow b → w'.heap[b]? = w.heap[b]? ∧ ow' b = .frz := fun b hz => by
  have hz : ow b = .frz := hz
  obtain ⟨h1, h2⟩ := hm.keep b (hb b (by rw [hz]; simp)) (.inr hz)
  exact ⟨h1, h2.trans hz⟩
 obtain ⟨v, hv, hr⟩ := h
 refine ⟨v, ht.trans hv, ?_⟩
 have hd0 : ∀ p : Pl, p.deps = [] → ∀ u, (∀ t', p.base = some t' → ts'[t']? = ts[t']?) → p.Hd w ow φ n ts u → p.Hd w' ow' φ' n ts' u := by
  intro p hp u hpb hu
  cases p with
  | slot q => simp only [Pl.Hd] at hu ⊢; rw [hpb q rfl]; exact hu
  | obj i j => simp [Pl.deps] at hp
  | el p s i o => simp [Pl.deps] at hp
 cases it with
 | v m p =>
  simp only [It.deps] at hd
  split at hd
  ·rename_i hm0
   subst hm0
   obtain ⟨B, hr, hnd, hl⟩ := hr
   obtain rfl := RP.zeroB hr
   exact own0 (RP.mono (fun b hb => (z b hb).1) (fun b hb => (z b hb).2) hφ (Nat.le_refl _) 0 p v [] (by simp) hr)
  ·cases hd
 | nils => exact hr
 | ap s xs => simp [It.deps] at hd
 | tup ps =>
  obtain ⟨vs, B, hv, hr, hnd, hl⟩ := hr
  have ha : (ps.all (fun p => p.1 == 0)) = true := by
   simp only [It.deps] at hd
   split at hd
   ·assumption
   ·cases hd
  obtain rfl := RTup.zeroB ha hr
  exact ⟨vs, [], hv, RTup.mono (fun b hb => (z b hb).1) (fun b hb => (z b hb).2) hφ (Nat.le_refl _) ps _ [] (by simp) hr, hnd, by simp⟩
 | b p => exact hd0 p hd v hbase hr
 | bc p s lo k =>
  rcases hr with ⟨hv, h1⟩ | ⟨a, len, cap, a', cap', hv, h1⟩
  ·exact .inl ⟨hd0 p hd _ hbase hv, h1⟩
  ·exact .inr ⟨a, len, cap, a', cap', hd0 p hd _ hbase hv, h1⟩
 | be p s i o =>
  obtain ⟨a, len, cap, hv, h1⟩ := hr
  exact ⟨a, len, cap, hd0 p hd _ hbase hv, h1⟩
 | kb b => exact hr
 | nn s xs => exact ⟨RD.mono (fun b hb => (z b hb).1) (fun b hb => (z b hb).2) 0 _ _ [] (by simp) hr.1, hr.2⟩
 | pi o off => exact ⟨by rw [hφ o hr.2]; exact hr.1, hr.2⟩
 | fa cs =>
  obtain ⟨b, off, hv, h1, h2⟩ := hr
  obtain ⟨k1, k2⟩ := z b h1
  exact ⟨b, off, hv, k2, by rw [mem_of_block k1]; exact RC.mono (fun b hb => (z b hb).1) (fun b hb => (z b hb).2) 0 cs _ off [] (by simp) h2⟩
def preds (o : Oper) : List Nat := (o.after.toList.filter (Region.binds .any)).map (·.on)
def entsOf (its : List (Option (Nat × It))) (js : List Nat) : Env := js.filterMap fun j => (its[j]?).join
def ent (its : List (Option (Nat × It))) (i : Nat) : Env := ((its[i]?).join).toList
structure DrawOK (P : Program) (N : Nat) (ops : Array Oper) (st : St) (C : Env) (its : List (Option (Nat × It))) : Prop where
 edges : ∀ (i : Nat) (o : Oper), ops[i]? = some o → ∀ j ∈ preds o, j < i
 dst : ∀ (i d : Nat) (it : It), (its[i]?).join = some (d, it) → ∃ o : Oper, ops[i]? = some o ∧ o.dst = some d ∧ it.deps (.sl d) = [] ∧ ∀ (j : Nat) (o' : Oper) (d' : Nat), ops[j]? = some o' → o'.dst = some d' → it.base ≠ some d'
 apart : ∀ (i j : Nat) (o o' : Oper) (d : Nat), ops[i]? = some o → ops[j]? = some o' → i ≠ j → o.dst = some d → o'.dst ≠ some d
 core : ∀ e ∈ C, ∀ (j : Nat) (o : Oper) (d : Nat), ops[j]? = some o → o.dst = some d → e.1 ≠ d ∧ e.2.base ≠ some d
 step : ∀ (i : Nat) (o : Oper), ops[i]? = some o → (wants ops (entsOf its (preds o) ++ C) o = some false ∧ (∀ e, (its[i]?).join = some e → e.2 = .tup [] ∧ e.1 < N)) ∨
  (wants ops (entsOf its (preds o) ++ C) o = some true ∧ OpJ P N o { st with env := entsOf its (preds o) ++ C } { st with env := ent its i ++ C })
def DInv (N : Nat) (st : St) (C : Env) (its : List (Option (Nat × It))) (listed : Array Bool) (w : World) (ow : Nat → Lab) (φ : Nat → Nat) (ts : Array Value) : Prop :=
 Rel N w ow φ ts { st with env := C } ∧ ∀ i d it, listed.getD i false = true → (its[i]?).join = some (d, it) → RIt w ow φ st.objs.length ts d it
theorem ready_mem {ops : Array Oper} {listed : Array Bool} {i : Nat} (h : i ∈ Region.ready .any ops listed) : ∃ o, ops[i]? = some o ∧ i < ops.size ∧ listed.getD i true = false ∧ ∀ j ∈ preds o, listed.getD j false = true := by
 unfold Region.ready at h
 obtain ⟨h1, h2⟩ := List.mem_filter.1 h
 have hi := List.mem_range.1 h1
 have ho : ops[i]? = some ops[i] := by simp [hi]
 refine ⟨ops[i], ho, hi, ?_⟩
 rw [ho] at h2
 simp only [Option.map_some, Option.getD_some, Bool.and_eq_true, Bool.not_eq_true', Array.all_eq_true', Bool.or_eq_true] at h2
 refine ⟨h2.1, fun j hj => ?_⟩
 obtain ⟨e, he, rfl⟩ := List.mem_map.1 hj
 obtain ⟨h3, h4⟩ := List.mem_filter.1 he
 rcases h2.2 e (by simpa using h3) with h5 | h5
 ·rw [h4] at h5; cases h5
 ·exact h5
theorem ready_nil {ops : Array Oper} {listed : Array Bool} (hsz : listed.size = ops.size) (he : ∀ i o, ops[i]? = some o → ∀ j ∈ preds o, j < i) (h : Region.ready .any ops listed = []) : ∀ i, i < ops.size → listed.getD i false = true := by
 intro i
 induction i using Nat.strongRecOn with
 | ind i ih =>
  intro hi
  by_cases hl : listed.getD i false = true
  ·exact hl
  ·exfalso
   have : i ∈ Region.ready .any ops listed := by
    unfold Region.ready
    have ho : ops[i]? = some ops[i] := by simp [hi]
    refine List.mem_filter.2 ⟨List.mem_range.2 hi, ?_⟩
    rw [ho]
    simp only [Option.map_some, Option.getD_some, Bool.and_eq_true, Bool.not_eq_true', Array.all_eq_true', Bool.or_eq_true]
    refine ⟨?_, fun e hem => ?_⟩
    ·have : i < listed.size := by omega
     simp only [Array.getD_eq_getD_getElem?, Array.getElem?_eq_getElem this, Option.getD_some] at hl ⊢
     simpa using hl
    ·by_cases hb : Region.binds .any e = true
     ·have hj : e.on ∈ preds ops[i] := List.mem_map.2 ⟨e, List.mem_filter.2 ⟨by simpa using hem, hb⟩, rfl⟩
      have hji := he i _ ho _ hj
      exact .inr (ih _ hji (by omega))
     ·exact .inl (by simpa using hb)
   rw [h] at this; simp at this
def unl (ops : Array Oper) (listed : Array Bool) : List Nat := (List.range ops.size).filter fun i => !listed.getD i true
theorem unl_set {ops : Array Oper} {listed : Array Bool} {i : Nat} (hsz : listed.size = ops.size) (hi : i < ops.size) (hl : listed.getD i true = false) : (unl ops (listed.setIfInBounds i true)).length < (unl ops listed).length := by
 have : unl ops (listed.setIfInBounds i true) = (unl ops listed).filter (fun j => j != i) := by
  unfold unl
  rw [List.filter_filter]
  apply List.filter_congr
  intro j hj
  have hj := List.mem_range.1 hj
  simp only [Array.getD_eq_getD_getElem?, Array.getElem?_setIfInBounds]
  by_cases e : i = j
  ·subst e; simp [hsz, hi]
  ·have : (j != i) = true := by simpa using fun h => e h.symm
   simp [e, this]
 rw [this]
 refine List.length_filter_lt_length_iff_exists.2 ⟨i, ?_, by simp⟩
 unfold unl
 exact List.mem_filter.2 ⟨List.mem_range.2 hi, by simpa using hl⟩
theorem draw_go {ops : Array Oper} {st : St} {C : Env} {its : List (Option (Nat × It))} (hok : DrawOK P N ops st C its) : ∀ (fuel t : Nat) (listed : Array Bool) (w : World) (ow : Nat → Lab) (φ : Nat → Nat) (ts : Array Value),
  listed.size = ops.size → (unl ops listed).length ≤ fuel → DInv N st C its listed w ow φ ts → ∃ w' ow' φ' ts' listed', (∀ i, i < ops.size → listed'.getD i false = true) ∧ DInv N st C its listed' w' ow' φ' ts' ∧ Mods w ow w' ow' ∧ (∀ i, i < st.objs.length → φ' i = φ i) ∧
   ∀ (b : Frame) (df : List Deferred) (k : List Item) (cs : List Frame), Steps P (lone (b.atR ⟨ts, df⟩ (.inRegion ops (Region.linearise.go .any ops fuel t listed []) :: k)) cs w) (lone (b.atR ⟨ts', df⟩ (.inRegion ops [] :: k)) cs w') := by
 intro fuel
 induction fuel with
 | zero =>
  intro t listed w ow φ ts hsz hu hi
  refine ⟨w, ow, φ, ts, listed, fun i hi' => ?_, hi, Mods.refl _ _, fun _ _ => rfl, fun b df k cs => by simp only [Region.linearise.go]; exact .refl _ _⟩
  have h0 : unl ops listed = [] := List.eq_nil_of_length_eq_zero (by omega)
  by_cases hl : listed.getD i false = true
  ·exact hl
  ·exfalso
   have : i ∈ unl ops listed := by
    refine List.mem_filter.2 ⟨List.mem_range.2 hi', ?_⟩
    have : i < listed.size := by omega
    simp only [Array.getD_eq_getD_getElem?, Array.getElem?_eq_getElem this, Option.getD_some] at hl ⊢
    simpa using hl
   rw [h0] at this; simp at this
 | succ fuel ih =>
  intro t listed w ow φ ts hsz hu hi
  have hgo : Region.linearise.go .any ops (fuel + 1) t listed [] = match (Region.ready .any ops listed)[t % (Region.ready .any ops listed).length]? with
   | some i => Region.linearise.go .any ops fuel (t / (Region.ready .any ops listed).length) (listed.setIfInBounds i true) [i]
   | none => [].reverse := rfl
  cases hr : (Region.ready .any ops listed)[t % (Region.ready .any ops listed).length]? with
  | none =>
   rw [hr] at hgo
   have hnil : Region.ready .any ops listed = [] := by
    cases hr' : Region.ready .any ops listed with
    | nil => rfl
    | cons x xs =>
     rw [hr'] at hr
     have hlt : t % (x :: xs).length < (x :: xs).length := Nat.mod_lt _ (by simp)
     rw [List.getElem?_eq_getElem hlt] at hr; cases hr
   refine ⟨w, ow, φ, ts, listed, ready_nil hsz hok.edges hnil, hi, Mods.refl _ _, fun _ _ => rfl, fun b df k cs => ?_⟩
   rw [hgo]
   exact .refl _ _
  | some i =>
   rw [hr] at hgo
   simp only [] at hgo
   rw [linearise_go_acc _ _ fuel _ _ [i]] at hgo
   obtain ⟨o, ho, his, hl, hp⟩ := ready_mem (List.mem_of_getElem? hr)
   have hset : (listed.setIfInBounds i true).size = ops.size := by simp [hsz]
   have hun := unl_set hsz his hl
   have hget : ∀ j, (listed.setIfInBounds i true).getD j false = true → j = i ∨ listed.getD j false = true := by
    intro j hj
    by_cases e : i = j
    ·exact .inl e.symm
    ·right
     simp only [Array.getD_eq_getD_getElem?, Array.getElem?_setIfInBounds, e, if_false] at hj ⊢
     exact hj
   obtain ⟨hrel, hits⟩ := hi
   have hsmall : Rel N w ow φ ts { st with env := entsOf its (preds o) ++ C } := by
    refine Rel.sub (st := { st with env := C }) hrel fun t' it' hm => ?_
    rcases List.mem_append.1 hm with hm | hm
    ·obtain ⟨j, hj, hje⟩ := List.mem_filterMap.1 hm
     exact hits j t' it' (hp j hj) hje
    ·exact hrel.env _ _ hm
   have hother : ∀ (ts' : Array Value) (v : Value) (w' : World) (ow' : Nat → Lab) (φ' : Nat → Nat), ts' = putO ts o.dst v → Mods w ow w' ow' → (∀ q, q < st.objs.length → φ' q = φ q) → ∀ j d it, listed.getD j false = true → (its[j]?).join = some (d, it) → RIt w' ow' φ' st.objs.length ts' d it := by
    intro ts' v w' ow' φ' hts hm hφ j d it hj hje
    obtain ⟨oj, hoj, hdj, hst, hbase⟩ := hok.dst j d it hje
    have hji : j ≠ i := by
     rintro rfl
     have : j < listed.size := by omega
     simp only [Array.getD_eq_getD_getElem?, Array.getElem?_eq_getElem this, Option.getD_some] at hl hj
     rw [hl] at hj; cases hj
    refine RIt.stable hm hrel.bnd hφ hst ?_ (fun t' ht' => ?_) (hits j d it hj hje)
    ·rw [hts]; exact putO_other fun e => hok.apart i j o oj d ho hoj (Ne.symm hji) e.symm hdj
    ·rw [hts]; exact putO_other fun e => hbase i o t' ho e.symm ht'
   have hgo' : Region.linearise.go .any ops (fuel + 1) t listed [] = i :: Region.linearise.go .any ops fuel (t / (Region.ready .any ops listed).length) (listed.setIfInBounds i true) [] := by rw [hgo]; rfl
   rcases hok.step i o ho with ⟨hw, hn⟩ | ⟨hw, hj⟩
   ·have hwf := wants_sound hsmall hw
    have hinv : DInv N st C its (listed.setIfInBounds i true) w ow φ (putO ts o.dst undef) := by
     refine ⟨⟨by rw [putO_size]; exact hrel.tsz, fun t' it' hm => ?_, hrel.objs, hrel.ext, hrel.bnd, hrel.marks⟩, fun j d it hj hje => ?_⟩
     ·obtain ⟨v, hv, hrv⟩ := hrel.env _ _ hm
      have hc := hok.core _ hm i o
      refine ⟨v, (putO_other (fun e => (hc t' ho e.symm).1 rfl)).trans hv, ?_⟩
      exact RV.keep (Keep.refl w ow) (by simp) (fun _ _ => rfl) (Nat.le_refl _) (by simp) (fun t2 ht2 => putO_other fun e => (hc t2 ho e.symm).2 ht2) (by simp) hrv
     ·rcases hget j hj with rfl | hj
      ·obtain ⟨rfl, hdN⟩ := hn _ hje
       obtain ⟨oj, hoj, hdj, _⟩ := hok.dst j d _ hje
       rw [ho] at hoj; cases hoj
       rw [hdj]
       exact ⟨undef, putO_same (by rw [hrel.tsz]; exact hdN), #[], [], rfl, ⟨rfl, rfl⟩, by simp, by simp⟩
      ·exact hother _ undef w ow φ rfl (Mods.refl _ _) (fun _ _ => rfl) j d it hj hje
    obtain ⟨w', ow', φ', ts', listed', h1, h2, h3, h4, h5⟩ := ih (t / (Region.ready .any ops listed).length) _ w ow φ _ hset (by omega) hinv
    refine ⟨w', ow', φ', ts', listed', h1, h2, h3, h4, fun b df k cs => ?_⟩
    rw [hgo']
    refine .head ?_ (h5 b df k cs)
    have := stepR_op_skip (P := P) (b := b) (a := ⟨ts, df⟩) (k := k) (cs := cs) (w := w) (ops := ops) (i := i) (rest := Region.linearise.go .any ops fuel (t / (Region.ready .any ops listed).length) (listed.setIfInBounds i true) []) (by simp [ho, hwf])
    rw [this, ho]
    simp only [Option.bind_some, put_eq]
   ·have hwf := wants_sound hsmall hw
    obtain ⟨w1, ow1, φ1, v, r1, m1, p1, to⟩ := hj w ow φ ts hsmall
    have hinv : DInv N st C its (listed.setIfInBounds i true) w1 ow1 φ1 (putO ts o.dst v) := by
     refine ⟨Rel.sub (st := { st with env := ent its i ++ C }) r1 fun t' it' hm => r1.env _ _ (List.mem_append.2 (.inr hm)), fun j d it hj hje => ?_⟩
     rcases hget j hj with rfl | hj
     ·exact r1.env d it (List.mem_append.2 (.inl (by simp [ent, hje])))
     ·exact hother _ v w1 ow1 φ1 rfl m1 p1 j d it hj hje
    obtain ⟨w', ow', φ', ts', listed', h1, h2, h3, h4, h5⟩ := ih (t / (Region.ready .any ops listed).length) _ w1 ow1 φ1 _ hset (by omega) hinv
    refine ⟨w', ow', φ', ts', listed', h1, h2, m1.trans h3, fun i hi => by rw [h4 i hi, p1 i hi], fun b df k cs => ?_⟩
    rw [hgo']
    exact (to b _ cs ops i _ k ho hwf).trans (h5 b df k cs)
end


section
variable {P : Program} {T : Tab} {N : Nat}
inductive PT (ops : Array Oper) : Nat → Nat → Prop
 | base {i j : Nat} {o : Oper} : ops[i]? = some o → j ∈ preds o → PT ops i j
 | step {i k j : Nat} {o : Oper} : ops[i]? = some o → k ∈ preds o → PT ops k j → PT ops i j
def Impos (ops : Array Oper) (mems : List Nat) (X : List Nat) (i : Nat) (o : Oper) : Prop :=
 (∃ x ∈ mems, PT ops i x ∧ x ∉ X) ∨ (∃ x ∈ mems, x ∈ X ∧ PT ops x i) ∨ (i ∈ mems ∧ i ∈ X)
def Next (mems X X' : List Nat) (i : Nat) : Prop := (i ∉ mems ∧ X' = X) ∨ (i ∈ mems ∧ ∀ x, x ∈ X' ↔ x = i ∨ x ∈ X)
structure DrawOK2 (P : Program) (N : Nat) (ops : Array Oper) (st : St) (its : List (Option (Nat × It))) (mems : List Nat) (sets : List (List Nat)) (Ss : List (Env × Objs × Ext)) : Prop where
 edges : ∀ (i : Nat) (o : Oper), ops[i]? = some o → ∀ j ∈ preds o, j < i
 dst : ∀ (i d : Nat) (it : It), (its[i]?).join = some (d, it) → ∃ o : Oper, ops[i]? = some o ∧ o.dst = some d ∧ it.deps (.sl d) = [] ∧ ∀ (j : Nat) (o' : Oper) (d' : Nat), ops[j]? = some o' → o'.dst = some d' → it.base ≠ some d'
 apart : ∀ (i j : Nat) (o o' : Oper) (d : Nat), ops[i]? = some o → ops[j]? = some o' → i ≠ j → o.dst = some d → o'.dst ≠ some d
 core : ∀ (s : Nat) (X : List Nat) (C : Env) (O : Objs) (E : Ext), sets[s]? = some X → Ss[s]? = some (C, O, E) → ∀ e ∈ C, ∀ (j : Nat) (o : Oper) (d : Nat), ops[j]? = some o → o.dst = some d → o.guard.isSome = true → (j ∈ mems ∧ j ∈ X) ∨ (e.1 ≠ d ∧ e.2.base ≠ some d)
 lens : ∀ (s : Nat) (C : Env) (O : Objs) (E : Ext), Ss[s]? = some (C, O, E) → st.objs.length ≤ O.length
 okn : ∀ (i d : Nat) (it : It), (its[i]?).join = some (d, it) → it.okn st.objs.length = true
 first : sets[0]? = some [] ∧ Ss[0]? = some (st.env, st.objs, st.ext)
 mem : ∀ x ∈ mems, x < ops.size
 step : ∀ (i : Nat) (o : Oper), ops[i]? = some o → ∀ (s : Nat) (X : List Nat) (C : Env) (O : Objs) (E : Ext), sets[s]? = some X → Ss[s]? = some (C, O, E) → Impos ops mems X i o ∨
  (wants ops (entsOf its (preds o) ++ C) o = some false ∧ (∀ e, (its[i]?).join = some e → e.2 = .tup [] ∧ e.1 < N) ∧ ∃ (s' : Nat) (X' : List Nat), sets[s']? = some X' ∧ Ss[s']? = some (C, O, E) ∧ Next mems X X' i) ∨
  (wants ops (entsOf its (preds o) ++ C) o = some true ∧ ∃ (s' : Nat) (X' : List Nat) (C' : Env) (O' : Objs) (E' : Ext), sets[s']? = some X' ∧ Ss[s']? = some (C', O', E') ∧ Next mems X X' i ∧ OpJ P N o { st with env := entsOf its (preds o) ++ C, objs := O, ext := E } { st with env := ent its i ++ C', objs := O', ext := E' })
def Stg (mems X : List Nat) (listed : Array Bool) : Prop := ∀ x ∈ mems, (listed.getD x false = true ↔ x ∈ X)
def DInv2 (N : Nat) (ops : Array Oper) (st : St) (its : List (Option (Nat × It))) (mems : List Nat) (sets : List (List Nat)) (Ss : List (Env × Objs × Ext)) (listed : Array Bool) (w : World) (ow : Nat → Lab) (φ : Nat → Nat) (ts : Array Value) : Prop :=
 (∀ (i : Nat) (o : Oper), listed.getD i false = true → ops[i]? = some o → ∀ p ∈ preds o, listed.getD p false = true) ∧
 ∃ (s : Nat) (X : List Nat) (C : Env) (O : Objs) (E : Ext), sets[s]? = some X ∧ Ss[s]? = some (C, O, E) ∧ Stg mems X listed ∧ Rel N w ow φ ts { st with env := C, objs := O, ext := E } ∧ ∀ i d it, listed.getD i false = true → (its[i]?).join = some (d, it) → RIt w ow φ st.objs.length ts d it
theorem RIt.grow {w : World} {ow : Nat → Lab} {φ : Nat → Nat} {n n' : Nat} {ts : Array Value} {t : Nat} {it : It} (hn : n ≤ n') (h : RIt w ow φ n ts t it) : RIt w ow φ n' ts t it :=
 RIt.keep (Keep.refl w ow) (by simp) (fun _ _ => rfl) hn rfl (fun _ _ => rfl) (by simp) h
theorem getD_set {listed : Array Bool} {i j : Nat} (hi : i < listed.size) : (listed.setIfInBounds i true).getD j false = true ↔ j = i ∨ listed.getD j false = true := by
 by_cases e : i = j
 ·subst e; simp [Array.getD_eq_getD_getElem?, hi]
 ·simp only [Array.getD_eq_getD_getElem?, Array.getElem?_setIfInBounds, e, if_false]
  exact ⟨fun h => .inr h, fun h => by rcases h with h | h; exact absurd h.symm e; exact h⟩
theorem Stg.next {mems X X' : List Nat} {listed : Array Bool} {i : Nat} (hi : i < listed.size) (h : Stg mems X listed) (hn : Next mems X X' i) : Stg mems X' (listed.setIfInBounds i true) := by
 intro x hx
 rw [getD_set hi, h x hx]
 rcases hn with ⟨hm, rfl⟩ | ⟨hm, he⟩
 ·exact ⟨fun h => by rcases h with rfl | h; exact absurd hx hm; exact h, .inr⟩
 ·exact (he x).symm
theorem not_impos {ops : Array Oper} {mems X : List Nat} {listed : Array Bool} {i : Nat} {o : Oper}
  (ho : ops[i]? = some o) (hp : ∀ j ∈ preds o, listed.getD j false = true) (hl : listed.getD i false = false) (hc : ∀ (i : Nat) (o : Oper), listed.getD i false = true → ops[i]? = some o → ∀ p ∈ preds o, listed.getD p false = true)
  (h : Stg mems X listed) : ¬ Impos ops mems X i o := by
 have clo : ∀ {a b : Nat}, PT ops a b → listed.getD a false = true → listed.getD b false = true := by
  intro a b hab
  induction hab with
  | base ho hj => exact fun ha => hc _ _ ha ho _ hj
  | step ho hk _ ih => exact fun ha => ih (hc _ _ ha ho _ hk)
 rintro (⟨x, hx, h1, h2⟩ | ⟨x, hx, h1, h2⟩ | ⟨h1, h2⟩)
 ·refine h2 ((h x hx).1 ?_)
  cases h1 with
  | base ho' hj => rw [ho] at ho'; cases ho'; exact hp x hj
  | step ho' hk hr => rw [ho] at ho'; cases ho'; exact clo hr (hp _ hk)
 ·have := clo h2 ((h x hx).2 h1)
  rw [hl] at this; cases this
 ·have := (h i h1).2 h2
  rw [hl] at this; cases this
theorem wants_guard {ops : Array Oper} {env : Env} {o : Oper} (h : wants ops env o = some false) : o.guard.isSome = true := by
 unfold wants at h
 split at h
 ·cases h
 ·rename_i g hg; simp [hg]
theorem draw_go2 {ops : Array Oper} {st : St} {its : List (Option (Nat × It))} {mems : List Nat} {sets : List (List Nat)} {Ss : List (Env × Objs × Ext)} (hok : DrawOK2 P N ops st its mems sets Ss) : ∀ (fuel t : Nat) (listed : Array Bool) (w : World) (ow : Nat → Lab) (φ : Nat → Nat) (ts : Array Value),
  listed.size = ops.size → (unl ops listed).length ≤ fuel → DInv2 N ops st its mems sets Ss listed w ow φ ts → ∃ w' ow' φ' ts' listed', (∀ i, i < ops.size → listed'.getD i false = true) ∧ DInv2 N ops st its mems sets Ss listed' w' ow' φ' ts' ∧ Mods w ow w' ow' ∧ (∀ i, i < st.objs.length → φ' i = φ i) ∧
   ∀ (b : Frame) (df : List Deferred) (k : List Item) (cs : List Frame), Steps P (lone (b.atR ⟨ts, df⟩ (.inRegion ops (Region.linearise.go .any ops fuel t listed []) :: k)) cs w) (lone (b.atR ⟨ts', df⟩ (.inRegion ops [] :: k)) cs w') := by
 intro fuel
 induction fuel with
 | zero =>
  intro t listed w ow φ ts hsz hu hi
  refine ⟨w, ow, φ, ts, listed, fun i hi' => ?_, hi, Mods.refl _ _, fun _ _ => rfl, fun b df k cs => by simp only [Region.linearise.go]; exact .refl _ _⟩
  have h0 : unl ops listed = [] := List.eq_nil_of_length_eq_zero (by omega)
  by_cases hl : listed.getD i false = true
  ·exact hl
  ·exfalso
   have : i ∈ unl ops listed := by
    refine List.mem_filter.2 ⟨List.mem_range.2 hi', ?_⟩
    have : i < listed.size := by omega
    simp only [Array.getD_eq_getD_getElem?, Array.getElem?_eq_getElem this, Option.getD_some] at hl ⊢
    simpa using hl
   rw [h0] at this; simp at this
 | succ fuel ih =>
  intro t listed w ow φ ts hsz hu hi
  have hgo : Region.linearise.go .any ops (fuel + 1) t listed [] = match (Region.ready .any ops listed)[t % (Region.ready .any ops listed).length]? with
   | some i => Region.linearise.go .any ops fuel (t / (Region.ready .any ops listed).length) (listed.setIfInBounds i true) [i]
   | none => [].reverse := rfl
  cases hr : (Region.ready .any ops listed)[t % (Region.ready .any ops listed).length]? with
  | none =>
   rw [hr] at hgo
   have hnil : Region.ready .any ops listed = [] := by
    cases hr' : Region.ready .any ops listed with
    | nil => rfl
    | cons x xs =>
     rw [hr'] at hr
     have hlt : t % (x :: xs).length < (x :: xs).length := Nat.mod_lt _ (by simp)
     rw [List.getElem?_eq_getElem hlt] at hr; cases hr
   refine ⟨w, ow, φ, ts, listed, ready_nil hsz hok.edges hnil, hi, Mods.refl _ _, fun _ _ => rfl, fun b df k cs => ?_⟩
   rw [hgo]
   exact .refl _ _
  | some i =>
   rw [hr] at hgo
   simp only [] at hgo
   rw [linearise_go_acc _ _ fuel _ _ [i]] at hgo
   obtain ⟨o, ho, his, hl, hp⟩ := ready_mem (List.mem_of_getElem? hr)
   have hset : (listed.setIfInBounds i true).size = ops.size := by simp [hsz]
   have hun := unl_set hsz his hl
   have hget : ∀ j, (listed.setIfInBounds i true).getD j false = true → j = i ∨ listed.getD j false = true := by
    intro j hj
    by_cases e : i = j
    ·exact .inl e.symm
    ·right
     simp only [Array.getD_eq_getD_getElem?, Array.getElem?_setIfInBounds, e, if_false] at hj ⊢
     exact hj
   obtain ⟨hclo, s, X, C, O, E, hX, hO, hstg, hrel, hits⟩ := hi
   have hOl := hok.lens s C O E hO
   have hlf : listed.getD i false = false := by
    have : i < listed.size := by omega
    simp only [Array.getD_eq_getD_getElem?, Array.getElem?_eq_getElem this, Option.getD_some] at hl ⊢
    exact hl
   have hclo' : ∀ (i' : Nat) (o' : Oper), (listed.setIfInBounds i true).getD i' false = true → ops[i']? = some o' → ∀ p ∈ preds o', (listed.setIfInBounds i true).getD p false = true := by
    intro i' o' h1 h2 p hpp
    rw [getD_set (by omega)] at h1 ⊢
    rcases h1 with rfl | h1
    ·rw [ho] at h2; cases h2; exact .inr (hp p hpp)
    ·exact .inr (hclo i' o' h1 h2 p hpp)
   have hsmall : Rel N w ow φ ts { st with env := entsOf its (preds o) ++ C, objs := O, ext := E } := by
    refine Rel.sub (st := { st with env := C, objs := O, ext := E }) hrel fun t' it' hm => ?_
    rcases List.mem_append.1 hm with hm | hm
    ·obtain ⟨j, hj, hje⟩ := List.mem_filterMap.1 hm
     exact RIt.grow hOl (hits j t' it' (hp j hj) hje)
    ·exact hrel.env _ _ hm
   have hother : ∀ (ts' : Array Value) (v : Value) (w' : World) (ow' : Nat → Lab) (φ' : Nat → Nat), ts' = putO ts o.dst v → Mods w ow w' ow' → (∀ q, q < st.objs.length → φ' q = φ q) → ∀ j d it, listed.getD j false = true → (its[j]?).join = some (d, it) → RIt w' ow' φ' st.objs.length ts' d it := by
    intro ts' v w' ow' φ' hts hm hφ j d it hj hje
    obtain ⟨oj, hoj, hdj, hst, hbase⟩ := hok.dst j d it hje
    have hji : j ≠ i := by
     rintro rfl
     have : j < listed.size := by omega
     simp only [Array.getD_eq_getD_getElem?, Array.getElem?_eq_getElem this, Option.getD_some] at hl hj
     rw [hl] at hj; cases hj
    refine RIt.stable hm hrel.bnd hφ hst ?_ (fun t' ht' => ?_) (hits j d it hj hje)
    ·rw [hts]; exact putO_other fun e => hok.apart i j o oj d ho hoj (Ne.symm hji) e.symm hdj
    ·rw [hts]; exact putO_other fun e => hbase i o t' ho e.symm ht'
   have hgo' : Region.linearise.go .any ops (fuel + 1) t listed [] = i :: Region.linearise.go .any ops fuel (t / (Region.ready .any ops listed).length) (listed.setIfInBounds i true) [] := by rw [hgo]; rfl
   rcases hok.step i o ho s X C O E hX hO with him | ⟨hw, hn, s', X', hX', hO', hnx⟩ | ⟨hw, s', X', C', O', E', hX', hO', hnx, hj⟩
   ·exact absurd him (not_impos ho hp hlf hclo hstg)
   ·have hwf := wants_sound hsmall hw
    have hinv : DInv2 N ops st its mems sets Ss (listed.setIfInBounds i true) w ow φ (putO ts o.dst undef) := by
     refine ⟨hclo', s', X', C, O, E, hX', hO', hstg.next (by omega) hnx, ⟨by rw [putO_size]; exact hrel.tsz, fun t' it' hm => ?_, hrel.objs, hrel.ext, hrel.bnd, hrel.marks⟩, fun j d it hj hje => ?_⟩
     ·obtain ⟨v, hv, hrv⟩ := hrel.env _ _ hm
      have hc : ∀ d, o.dst = some d → t' ≠ d ∧ it'.base ≠ some d := fun d hd => by
       rcases hok.core s X C O E hX hO _ hm i o d ho hd (wants_guard hw) with ⟨h1, h2⟩ | h
       ·exact absurd (.inr (.inr ⟨h1, h2⟩)) (not_impos ho hp hlf hclo hstg)
       ·exact h
      refine ⟨v, (putO_other (fun e => (hc t' e.symm).1 rfl)).trans hv, ?_⟩
      exact RV.keep (Keep.refl w ow) (by simp) (fun _ _ => rfl) (Nat.le_refl _) (by simp) (fun t2 ht2 => putO_other fun e => (hc t2 e.symm).2 ht2) (by simp) hrv
     ·rcases hget j hj with rfl | hj
      ·obtain ⟨rfl, hdN⟩ := hn _ hje
       obtain ⟨oj, hoj, hdj, _⟩ := hok.dst j d _ hje
       rw [ho] at hoj; cases hoj
       rw [hdj]
       exact ⟨undef, putO_same (by rw [hrel.tsz]; exact hdN), #[], [], rfl, ⟨rfl, rfl⟩, by simp, by simp⟩
      ·exact hother _ undef w ow φ rfl (Mods.refl _ _) (fun _ _ => rfl) j d it hj hje
    obtain ⟨w', ow', φ', ts', listed', h1, h2, h3, h4, h5⟩ := ih (t / (Region.ready .any ops listed).length) _ w ow φ _ hset (by omega) hinv
    refine ⟨w', ow', φ', ts', listed', h1, h2, h3, h4, fun b df k cs => ?_⟩
    rw [hgo']
    refine .head ?_ (h5 b df k cs)
    have := stepR_op_skip (P := P) (b := b) (a := ⟨ts, df⟩) (k := k) (cs := cs) (w := w) (ops := ops) (i := i) (rest := Region.linearise.go .any ops fuel (t / (Region.ready .any ops listed).length) (listed.setIfInBounds i true) []) (by simp [ho, hwf])
    rw [this, ho]
    simp only [Option.bind_some, put_eq]
   ·have hwf := wants_sound hsmall hw
    obtain ⟨w1, ow1, φ1, v, r1, m1, p1, to⟩ := hj w ow φ ts hsmall
    have hinv : DInv2 N ops st its mems sets Ss (listed.setIfInBounds i true) w1 ow1 φ1 (putO ts o.dst v) := by
     refine ⟨hclo', s', X', C', O', E', hX', hO', hstg.next (by omega) hnx, Rel.sub (st := { st with env := ent its i ++ C', objs := O', ext := E' }) r1 fun t' it' hm => r1.env _ _ (List.mem_append.2 (.inr hm)), fun j d it hj hje => ?_⟩
     rcases hget j hj with rfl | hj
     ·have := r1.env d it (List.mem_append.2 (.inl (by simp [ent, hje])))
      exact RIt.fewer (hok.okn j d it hje) this
     ·exact hother _ v w1 ow1 φ1 rfl m1 (fun q hq => p1 q (by show q < O.length; omega)) j d it hj hje
    obtain ⟨w', ow', φ', ts', listed', h1, h2, h3, h4, h5⟩ := ih (t / (Region.ready .any ops listed).length) _ w1 ow1 φ1 _ hset (by omega) hinv
    refine ⟨w', ow', φ', ts', listed', h1, h2, m1.trans h3, fun i hi => by rw [h4 i hi, p1 i (by show i < O.length; omega)], fun b df k cs => ?_⟩
    rw [hgo']
    exact (to b _ cs ops i _ k ho hwf).trans (h5 b df k cs)
end


def evClos (st : St) (t m : Nat) : Option St := match look st.env t with
 | some (.v 0 (.fn g cap)) => match closPs st.objs m cap with
  | some qs => if (Nat.ble m st.objs.length && (st.objs.take m).all (fun cs => cs.all fun c => c.2.okn m)) = true then some { st with env := [(t, .v 0 (.fn g qs))], objs := st.objs.take m } else none
  | none => none
 | _ => none
def owC (m : Nat) (l : Lab) : Lab := match l with
 | .bx i => if m ≤ i then .frz else .bx i
 | .ce i j => if m ≤ i then .frz else .ce i j
 | l => l
section
variable {N : Nat} {w : World} {ow : Nat → Lab} {φ : Nat → Nat} {ts : Array Value} {st st' : St} {t m : Nat}
theorem owC_frz {m : Nat} (b : Nat) : Fz ow b → Fz (fun b => owC m (ow b)) b := fun hb => by simp only [Fz] at hb ⊢; rw [hb]; rfl
theorem closP_ok (h : Rel N w ow φ ts st) {p q : PV} {v : Value} (hp : closP st.objs m p = some q) (hr : RP w (Fz ow) φ st.objs.length 0 p v []) : RP w (Fz fun b => owC m (ow b)) φ (st.objs.take m).length 0 q v [] := by
 unfold closP at hp
 split at hp
 ·rename_i o off
  split at hp
  ·rename_i hlt
   cases hp
   simp only [RP] at hr ⊢
   simp only [Nat.blt_eq] at hlt
   exact ⟨hr.1, by rw [List.length_take]; have := hr.2.1; omega, trivial⟩
  ·rename_i hlt
   simp only [Nat.blt_eq] at hlt
   split at hp
   ·rename_i cs hc
    split at hp
    ·rename_i xs hx
     cases hp
     simp only [RP] at hr ⊢
     obtain ⟨c, e, hh, hsz, hl, hcs⟩ := h.objs o cs hc
     refine ⟨φ o, off, hr.1, trivial, by simp only [Fz, hl, owC]; rw [if_pos (by omega)], ?_⟩
     have key : RC w (Fz fun b => owC m (ow b)) 0 xs (mem w (φ o)) 0 [] := by
      refine RC.of0 fun j x hj => ?_
      obtain ⟨mm, hj2⟩ := (dcOf_get hx).2 j x hj
      obtain ⟨u, u1, _, _, B, hB, _, hl2⟩ := hcs j _ _ hj2
      simp only [RP] at hB
      refine ⟨u, by simp only [mem, World.cell?, hh]; simpa using u1, RD.freeze (owC_frz) mm x u B (fun b hb => ?_) hB⟩
      simp only [Fz, hl2 b hb, owC]; rw [if_pos (by omega)]
     have := RC.drop 0 xs 0 off key
     simpa using this
    ·cases hp
   ·cases hp
 ·cases hp; simp only [RP] at hr ⊢; exact RD.mono (fun _ _ => rfl) owC_frz 0 _ v [] (by simp) hr
 ·cases hp; simp only [RP] at hr ⊢; obtain ⟨b, off, h1, h2, h3, h4⟩ := hr; exact ⟨b, off, h1, h2, owC_frz b h3, RC.mono (fun _ _ => rfl) owC_frz 0 _ _ off [] (by simp) h4⟩
 ·cases hp; simpa only [RP] using hr
 ·cases hp; simpa only [RP] using hr
 ·cases hp
theorem closPs_ok (h : Rel N w ow φ ts st) : ∀ {ps qs : List PV} {vs : List Value}, closPs st.objs m ps = some qs → RPs w (Fz ow) φ st.objs.length ps vs → RPs w (Fz fun b => owC m (ow b)) φ (st.objs.take m).length qs vs
 | [], qs, vs, hp, hr => by simp only [closPs] at hp; cases hp; simpa only [RPs] using hr
 | p :: ps, qs, vs, hp, hr => by
  simp only [closPs] at hp
  split at hp
  ·rename_i q qs' h1 h2
   cases hp
   simp only [RPs] at hr ⊢
   obtain ⟨v, vs', hv, r1, r2⟩ := hr
   exact ⟨v, vs', hv, closP_ok h h1 r1, closPs_ok h h2 r2⟩
  ·cases hp
theorem evClos_ok (he : evClos st t m = some st') (h : Rel N w ow φ ts st) : Rel N w (fun b => owC m (ow b)) φ ts st' ∧ Mods w ow w (fun b => owC m (ow b)) := by
 have hmods : Mods w ow w (fun b => owC m (ow b)) := ⟨rfl, rfl, rfl, Nat.le_refl _, fun b _ hl => ⟨rfl, by rcases hl with hl | hl <;> simp only [hl, owC]⟩⟩
 refine ⟨?_, hmods⟩
 unfold evClos at he
 split at he
 ·rename_i g cap hl
  split at he
  ·rename_i qs hqs
   split at he
   ·rename_i hc
    cases he
    simp only [Bool.and_eq_true, Nat.ble_eq, List.all_eq_true] at hc
    refine ⟨h.tsz, fun t' it hm => ?_, fun i cs hi => ?_, ?_, fun b hb => h.bnd b fun e => hb (by simp only [e]; rfl), fun r hm => ?_⟩
    ·obtain ⟨rfl, rfl⟩ := Prod.mk.inj (List.mem_singleton.1 hm)
     obtain ⟨v, hv, B, hB, _, _⟩ := h.env _ _ (look_mem hl)
     simp only [RP] at hB
     obtain ⟨vs, h1, h2, h3⟩ := hB
     refine ⟨v, hv, own0 ?_⟩
     simp only [RP]
     exact ⟨vs, h1, trivial, closPs_ok h hqs h3⟩
    ·have hmem := List.mem_of_getElem? hi
     have hi' := hi
     rw [List.getElem?_take] at hi
     split at hi
     ·rename_i him
      have hlen : (st.objs.take m).length = m := by rw [List.length_take]; omega
      obtain ⟨c, e, hh, hsz, hlab, hcs⟩ := h.objs i cs hi
      refine ⟨c, e, hh, hsz, by simp only [hlab, owC]; rw [if_neg (by omega)], fun j mm p hj => ?_⟩
      obtain ⟨v, h1, h2, h3, B, h4, h5, h6⟩ := hcs j mm p hj
      have hok : p.okn (st.objs.take m).length = true := by rw [hlen]; exact hc.2 cs hmem (mm, p) (List.mem_of_getElem? hj)
      refine ⟨v, h1, h2, h3, B, RP.fewer mm p v B hok (RP.mono (fun _ _ => rfl) owC_frz (fun _ _ => rfl) (Nat.le_refl _) mm p v B (fun _ _ => rfl) h4), h5, fun b hb => ?_⟩
      simp only [h6 b hb, owC]; rw [if_neg (by omega)]
     ·cases hi
    ·exact st.ext.ok w w ow _ (fun b hb => ⟨rfl, by rcases hb with hb | hb <;> simp only [hb, owC]⟩) (fun b _ hf => by simp only [hf, owC]) (Nat.le_refl _) h.ext
    ·obtain ⟨h1, h2⟩ := h.marks r hm
     exact ⟨h1, by simp only [h2, owC]⟩
   ·cases he
  ·cases he
 ·cases he
end


def evConvs : St → List Orc → Option (St × List Prop)
 | st, [] => some (st, [])
 | st, c :: cs => match evConv st c with
  | some (st1, obs1) => match evConvs st1 cs with
   | some (st2, obs2) => some (st2, obs1 ++ obs2)
   | none => none
  | none => none
def evPre : St → List Orc → Option (St × List Prop × List Orc)
 | _, [] => none
 | st, .mark :: orc => some (st, [], orc)
 | st, c :: orc => match evConv st c with
  | some (st1, obs1) => match evPre st1 orc with
   | some (st2, obs2, orc2) => some (st2, obs1 ++ obs2, orc2)
   | none => none
  | none => none
def evOne0 (P : Program) (T : Tab) (N : Nat) (st : St) (o : Oper) (orc : List Orc) : Option (St × List Prop) :=
 match evOp P T N st o orc with
 | some (st1, obs1, orc1) => match evConvs st1 orc1 with
  | some (st2, obs2) => some (st2, obs1 ++ obs2)
  | none => none
 | none => none
def evOne (P : Program) (T : Tab) (N : Nat) (st : St) (o : Oper) (orc : List Orc) : Option (St × List Prop) :=
 match orc with
 | .mark :: orc1 => match evPre st orc1 with
  | some (st1, obs1, orc2) => match evOne0 P T N st1 o orc2 with
   | some (st2, obs2) => some (st2, obs1 ++ obs2)
   | none => none
  | none => none
 | _ => evOne0 P T N st o orc
def dstsOf (ops : List Oper) : List Nat := ops.filterMap (·.dst)
def memN (l : List Nat) (d : Nat) : Bool := l.any (Nat.beq d)
def baseIn (l : List Nat) (it : It) : Bool := match it.base with
 | some q => memN l q
 | none => false
def drawB (ops : Array Oper) (C : Env) (its : List (Option (Nat × It))) : Bool :=
 let l := ops.toList
 let ds := dstsOf l
 (List.range ops.size).all (fun i => match ops[i]? with
  | some o => (preds o).all (fun j => Nat.blt j i) &&
    (match (its[i]?).join with
    | none => true
    | some (d, it) => (match o.dst with | some d' => Nat.beq d d' | none => false) && (it.deps (.sl d)).isEmpty && !baseIn ds it) &&
    (match o.dst with
    | none => true
    | some d => (List.range ops.size).all fun j => Nat.beq i j || match ops[j]? with
     | some o' => (match o'.dst with | some d' => !Nat.beq d d' | none => true)
     | none => true)
  | none => false) &&
 C.all (fun e => !memN ds e.1 && !baseIn ds e.2) && Nat.beq its.length ops.size
def drawOne (P : Program) (T : Tab) (N : Nat) (ops : Array Oper) (st : St) (its : List (Option (Nat × It))) (orcs : List (List Orc)) (i : Nat) : Option (List Prop × List Prop) :=
 match ops[i]? with
 | some o => match wants ops (entsOf its (preds o) ++ st.env) o with
  | some false => match (its[i]?).join with
   | none => some ([], [])
   | some (d, .tup []) => if Nat.blt d N = true then some ([], []) else none
   | _ => none
  | some true => match evOne P T N { st with env := entsOf its (preds o) ++ st.env } o (orcs.getD i [] ++ [.env ((ent its i ++ st.env).map (·.1))]) with
   | some (st', obs) => some (obs, [st' = { st with env := ent its i ++ st.env }])
   | none => none
  | none => none
 | none => none
def drawAll (P : Program) (T : Tab) (N : Nat) (ops : Array Oper) (st : St) (its : List (Option (Nat × It))) (orcs : List (List Orc)) : List Nat → Option (List Prop × List Prop)
 | [] => some ([], [])
 | i :: l => match drawOne P T N ops st its orcs i, drawAll P T N ops st its orcs l with
  | some a, some b => some (a.1 ++ b.1, a.2 ++ b.2)
  | _, _ => none
def evDraw (P : Program) (T : Tab) (N : Nat) (ops : Array Oper) (st : St) (its : List (Option (Nat × It))) (orcs : List (List Orc)) : Option (List Prop) :=
 if drawB ops st.env its = true then (match drawAll P T N ops st its orcs (List.range ops.size) with
  | some r => some (r.1 ++ r.2)
  | none => none) else none
def ptB (ops : Array Oper) : Nat → Nat → Nat → Bool
 | 0, _, _ => false
 | n + 1, i, j => match ops[i]? with
  | some o => (preds o).any (Nat.beq j) || (preds o).any (fun k => Nat.ble j k && ptB ops n k j)
  | none => false
def imposB (ops : Array Oper) (mems X : List Nat) (i : Nat) (o : Oper) : Bool :=
 mems.any (fun x => (!memN X x && ptB ops 30 i x) || (memN X x && ptB ops 30 x i)) || (memN mems i && memN X i)
def setB (X Y : List Nat) : Bool := X.all (memN Y) && Y.all (memN X)
def findSet (Y : List Nat) : Nat → List (List Nat) → Option Nat
 | _, [] => none
 | k, X :: l => if setB X Y = true then some k else findSet Y (k + 1) l
def nextB (mems : List Nat) (sets : List (List Nat)) (X : List Nat) (i s : Nat) : Option Nat := match memN mems i with
 | false => some s
 | true => findSet (i :: X) 0 sets
def drawOne2 (P : Program) (T : Tab) (N : Nat) (ops : Array Oper) (st : St) (its : List (Option (Nat × It))) (mems : List Nat) (sets : List (List Nat)) (Ss : List (Env × Objs × Ext)) (orcs : List (List (List Orc))) (i s : Nat) : Option (List Prop × List Prop) :=
 match ops[i]?, sets[s]?, Ss[s]? with
 | some o, some X, some S => match imposB ops mems X i o with
  | true => some ([], [])
  | false => match nextB mems sets X i s with
   | none => none
   | some s' => match Ss[s']? with
    | none => none
    | some S' => match wants ops (entsOf its (preds o) ++ S.1) o with
     | some false => match (its[i]?).join with
      | none => some ([S = S'], [])
      | some (d, .tup []) => if Nat.blt d N = true then some ([S = S'], []) else none
      | _ => none
     | some true => match evOne P T N { st with env := entsOf its (preds o) ++ S.1, objs := S.2.1, ext := S.2.2 } o ((orcs.getD i []).getD s [] ++ [.env ((ent its i ++ S'.1).map (·.1))]) with
      | some (st', obs) => some (obs, [st' = { st with env := ent its i ++ S'.1, objs := S'.2.1, ext := S'.2.2 }])
      | none => none
     | none => none
 | _, _, _ => none
def drawAll2 (P : Program) (T : Tab) (N : Nat) (ops : Array Oper) (st : St) (its : List (Option (Nat × It))) (mems : List Nat) (sets : List (List Nat)) (Ss : List (Env × Objs × Ext)) (orcs : List (List (List Orc))) : List (Nat × Nat) → Option (List Prop × List Prop)
 | [] => some ([], [])
 | e :: l => match drawOne2 P T N ops st its mems sets Ss orcs e.1 e.2, drawAll2 P T N ops st its mems sets Ss orcs l with
  | some a, some b => some (a.1 ++ b.1, a.2 ++ b.2)
  | _, _ => none
def coreB (ops : Array Oper) (mems X : List Nat) (C : Env) : Bool := C.all fun e => (List.range ops.size).all fun j => match ops[j]? with
 | some o => (match o.dst with
  | some d => o.guard.isNone || (memN mems j && memN X j) || (!Nat.beq e.1 d && (match e.2.base with
   | some q => !Nat.beq q d
   | none => true))
  | none => true)
 | none => true
def drawB2 (ops : Array Oper) (st : St) (its : List (Option (Nat × It))) (mems : List Nat) (sets : List (List Nat)) (Ss : List (Env × Objs × Ext)) : Bool :=
 Nat.beq sets.length Ss.length && Ss.all (fun S => Nat.ble st.objs.length S.2.1.length) && its.all (fun e => match e with | some e => e.2.okn st.objs.length | none => true) && mems.all (fun x => Nat.blt x ops.size) &&
 (List.range sets.length).all (fun s => match sets[s]?, Ss[s]? with
  | some X, some S => coreB ops mems X S.1 && (!(mems.all (memN X)) || Nat.beq (s + 1) sets.length)
  | _, _ => true) &&
 (match sets[0]? with
  | some [] => true
  | _ => false)
def evDraw2 (P : Program) (T : Tab) (N : Nat) (ops : Array Oper) (st : St) (its : List (Option (Nat × It))) (mems : List Nat) (sets : List (List Nat)) (Ss : List (Env × Objs × Ext)) (orcs : List (List (List Orc))) : Option (List Prop) :=
 if (drawB ops [] its && drawB2 ops st its mems sets Ss) = true then match drawAll2 P T N ops st its mems sets Ss orcs ((List.range ops.size).flatMap fun i => (List.range sets.length).map fun s => (i, s)) with
  | some r => some ((Ss[0]? = some (st.env, st.objs, st.ext)) :: (r.1 ++ r.2))
  | none => none
 else none
inductive Out where
 | at (todo : List Item) (st : St)
 | ret (st : St)
abbrev EvR := Option (Out × List Prop × List Orc)
def pre (obs : List Prop) : EvR → EvR
 | some (o, obs', orc) => some (o, obs ++ obs', orc)
 | none => none
def normC : Code → List Item → List Item → List Item
 | .seq x y, k, kn => normC x (.code y :: k) (normC y k kn)
 | .skip, _, kn => kn
 | .label _, _, kn => kn
 | .loop c, k, _ => .code c :: .inLoop c :: k
 | c, k, _ => .code c :: k
def norm : List Item → List Item
 | .code c :: k => normC c k (norm k)
 | .inLoop c :: k => .code c :: .inLoop c :: k
 | k => k
def pickC (t : Bool) (x y : Code) : Code := match t with
 | true => x
 | false => y
def stopAt (todo : List Item) (st : St) (orc : List Orc) : EvR := match orc with
 | .objs q :: orc1 => match evConvs st orc1 with
  | some (st1, obs1) => if fewB st1 q = true then some (.at todo { st1 with objs := st1.objs.take q }, obs1, []) else none
  | none => none
 | orc1 => match evConvs st orc1 with
  | some (st1, obs1) => some (.at todo st1, obs1, [])
  | none => none
def stopOk (todo : List Item) (m : Nat) : Bool := match todo with
 | .code (.seq _ _) :: _ => Nat.beq todo.length m
 | .code (.label _) :: _ => Nat.beq todo.length m
 | .code .skip :: _ => Nat.beq todo.length m
 | .code (.goto _) :: _ => Nat.beq todo.length m
 | .code (.exit _) :: _ => Nat.beq todo.length m
 | .inBlock _ :: _ => Nat.beq todo.length m
 | .inScope _ :: _ => Nat.beq todo.length m
 | _ => Nat.beq todo.length m || Nat.beq (todo.length + 1000) m
def evRun (P : Program) (T : Tab) (N : Nat) : Nat → List Item → St → List Orc → EvR
 | 0, _, _, _ => none
 | n + 1, todo, st, orc =>
  match (match orc with
   | .stop m :: .objs q :: orc1 => if stopOk todo m = true then (match evConvs st orc1 with
    | some (st1, obs1) => if fewB st1 q = true then some (.inl (.at (norm todo) { st1 with objs := st1.objs.take q }, obs1, [])) else none
    | none => none) else none
   | .stop m :: orc1 => if stopOk todo m = true then (match evConvs st orc1 with
    | some (st1, obs1) => some (.inl (.at (norm todo) st1, obs1, []))
    | none => none) else none
   | c :: orc1 => match evConv st c with
    | some (st1, obs1) => some (.inr (st1, obs1, orc1))
    | none => none
   | [] => none : Option ((Out × List Prop × List Orc) ⊕ (St × List Prop × List Orc))) with
  | some (.inl r) => some r
  | some (.inr (st1, obs1, orc1)) => pre obs1 (evRun P T N n todo st1 orc1)
  | none => match todo with
   | .code .skip :: k => evRun P T N n k st orc
   | .code (.label _) :: k => evRun P T N n k st orc
   | .inBlock _ :: k => evRun P T N n k st orc
   | .code (.seq x y) :: k => evRun P T N n (.code x :: .code y :: k) st orc
   | .code (.cond c x y) :: k => match opd st.env c with
    | some (.kb t) => evRun P T N n (.code (pickC t x y) :: k) st orc
    | some (.v 0 (.d (.bool e))) => match orc with
     | .br t :: orc1 => pre [e = t] (evRun P T N n (.code (pickC t x y) :: k) st orc1)
     | _ => none
    | _ => none
   | .code (.scope c) :: k => evRun P T N n (.code c :: .inScope c :: k) st orc
   | .inScope _ :: k => evRun P T N n k st orc
   | .code (.block id c) :: k => evRun P T N n (.code c :: .inBlock id :: k) st orc
   | .code (.loop c) :: k => evRun P T N n (.code c :: .inLoop c :: k) st orc
   | .inLoop c :: k => evRun P T N n (.code c :: .inLoop c :: k) st orc
   | .code (.exit id) :: k => match exitTo id k with
    | some k' => evRun P T N n k' st orc
    | none => match orc with
     | .halt :: orc1 => stopAt (.code (.exit id) :: k) st orc1
     | _ => none
   | .code (.goto l) :: k => match gotoIn l k with
    | some k' => evRun P T N n k' st orc
    | none => match orc with
     | .halt :: orc1 => stopAt (.code (.goto l) :: k) st orc1
     | _ => none
   | [] => match orc with
    | .mark :: orc1 => match evConvs st orc1 with
     | some (st1, obs1) => some (.ret st1, obs1, [])
     | none => none
    | _ => none
   | .code .ret :: k => match orc with
    | .halt :: orc1 => stopAt (.code .ret :: k) st orc1
    | .mark :: .clos t m :: orc1 => match evConvs st orc1 with
     | some (st1, obs1) => match evClos st1 t m with
      | some st2 => some (.ret st2, obs1, [])
      | none => none
     | none => none
    | .mark :: .objs m :: orc1 => match evConvs st orc1 with
     | some (st1, obs1) => if fewB st1 m = true then some (.ret { st1 with objs := st1.objs.take m }, obs1, []) else none
     | none => none
    | .mark :: orc1 => match evConvs st orc1 with
     | some (st1, obs1) => some (.ret st1, obs1, [])
     | none => none
    | orc => some (.ret st, [], orc)
   | .code (.region id ops false) :: k => match evOps P T N ops 400 (List.range ops.size) st orc with
    | some (st1, obs1, orc1) => pre obs1 (evRun P T N n k st1 orc1)
    | none => none
   | .code (.region id ops true) :: k => match orc with
    | .pre ts :: .draw its orcs :: orc1 => match pickEnv st.env ts with
     | some r => match evDraw P T N ops { st with env := r } its orcs with
      | some obs1 => pre obs1 (evRun P T N n k { st with env := entsOf its (List.range ops.size) ++ r } orc1)
      | none => none
     | none => none
    | .draw its orcs :: orc1 => match evDraw P T N ops st its orcs with
     | some obs1 => pre obs1 (evRun P T N n k { st with env := entsOf its (List.range ops.size) ++ st.env } orc1)
     | none => none
    | .pre ts :: .drawM mems sets Ss its orcs :: orc1 => match pickEnv st.env ts with
     | some r => match evDraw2 P T N ops { st with env := r } its mems sets Ss orcs, Ss[Ss.length - 1]? with
      | some obs1, some S => pre obs1 (evRun P T N n k { st with env := entsOf its (List.range ops.size) ++ S.1, objs := S.2.1, ext := S.2.2 } orc1)
      | _, _ => none
     | none => none
    | _ => none
   | _ => none
def Out.st : Out → St
 | .at _ st => st
 | .ret st => st
def Out.todo : Out → List Item → Prop
 | .at t _, k => k = t
 | .ret _, k => k = [] ∨ ∃ k', k = .code .ret :: k'
def Marks (w : World) (ow : Nat → Lab) (lo : Nat) (ms : List Nat) : Prop := ms.Nodup ∧ ∀ r ∈ ms, lo ≤ r ∧ r < w.heap.size ∧ w.heap[r]? = some (.deferred (some [])) ∧ ow r = .free
theorem Marks.nil {w : World} {ow : Nat → Lab} {lo : Nat} : Marks w ow lo [] := ⟨List.nodup_nil, by simp⟩
theorem Marks.le {w : World} {ow : Nat → Lab} {lo lo' : Nat} {ms : List Nat} (h : lo' ≤ lo) (h' : Marks w ow lo ms) : Marks w ow lo' ms := ⟨h'.1, fun r hr => by obtain ⟨h1, h2⟩ := h'.2 r hr; exact ⟨by omega, h2⟩⟩
theorem Marks.append {w w' : World} {ow ow' : Nat → Lab} {lo : Nat} {ms ms' : List Nat} (h : Marks w ow lo ms) (hm : Mods w ow w' ow') (h' : Marks w' ow' w.heap.size ms') (hlo : lo ≤ w.heap.size) : Marks w' ow' lo (ms' ++ ms) := by
 refine ⟨List.nodup_append.2 ⟨h'.1, h.1, fun a ha b hb e => ?_⟩, fun r hr => ?_⟩
 ·have h1 := (h'.2 a ha).1
  have h2 := (h.2 b hb).2.1
  omega
 ·rcases List.mem_append.1 hr with hr | hr
  ·obtain ⟨h1, h2⟩ := h'.2 r hr; exact ⟨by omega, h2⟩
  ·obtain ⟨h1, h2, h3, h4⟩ := h.2 r hr
   obtain ⟨k1, k2⟩ := hm.keep r h2 (.inl h4)
   exact ⟨h1, Nat.lt_of_lt_of_le h2 hm.size, k1.trans h3, k2.trans h4⟩
theorem Marks.mods {w w' : World} {ow ow' : Nat → Lab} {lo : Nat} {ms : List Nat} (h : Marks w ow lo ms) (hm : Mods w ow w' ow') : Marks w' ow' lo ms :=
 ⟨h.1, fun r hr => by
  obtain ⟨h1, h2, h3, h4⟩ := h.2 r hr
  obtain ⟨k1, k2⟩ := hm.keep r h2 (.inl h4)
  exact ⟨h1, Nat.lt_of_lt_of_le h2 hm.size, k1.trans h3, k2.trans h4⟩⟩
theorem dfOf_append (a b : List Nat) (df : List Deferred) : dfOf (a ++ b) ++ df = dfOf a ++ (dfOf b ++ df) := by simp [dfOf]
def Reach (P : Program) (N : Nat) (todo : List Item) (st : St) (out : Out) (B : Frame → Prop := fun b => b.roundOf = none) : Prop :=
 ∀ w ow φ ts, Rel N w ow φ ts st → ∀ g : FuncId, ∃ w' ow' φ' ts' k' ms, Rel N w' ow' φ' ts' out.st ∧ Mods w ow w' ow' ∧ (∀ i, i < st.objs.length → i < out.st.objs.length → φ' i = φ i) ∧ Marks w' ow' w.heap.size ms ∧ out.todo k' ∧
  ∀ (b : Frame), b.fn = g → B b → ∀ (df : List Deferred) (cs : List Frame), Steps P (lone (b.atR ⟨ts, df⟩ todo) cs w) (lone (b.atR ⟨ts', dfOf ms ++ df⟩ k') cs w')
section
variable {P : Program} {T : Tab} {N : Nat} {B : Frame → Prop}
def POK (P : Program) (T : Tab) : Prop := TOK P T ∧ P.follows .mixedOrders = true
theorem OpJ.conv {o : Oper} {st st1 st2 : St} (h1 : OpJ P N o st st1) (hn : st.objs.length ≤ st1.objs.length) (h2 : Conv st1 st2) : OpJ P N o st st2 := by
 intro w ow φ ts hr
 obtain ⟨w1, ow1, φ1, v, r1, m1, p1, to⟩ := h1 w ow φ ts hr
 obtain ⟨ow2, φ2, r2, m2, p2, n2, k2⟩ := h2 N w1 ow1 φ1 _ r1
 exact ⟨w1, ow2, φ2, v, r2, m1.trans m2, fun i hi => by rw [p2 i (by omega), p1 i hi], to⟩
theorem evConvs_sound : ∀ {orc : List Orc} {st st' : St} {obs : List Prop}, evConvs st orc = some (st', obs) → AllP obs → Conv st st'
 | [], st, st', obs, h, ho => by simp only [evConvs] at h; cases h; exact Conv.refl _
 | c :: cs, st, st', obs, h, ho => by
  simp only [evConvs] at h
  split at h
  ·rename_i h1
   split at h
   ·rename_i h2
    cases h
    obtain ⟨o1, o2⟩ := AllP.append.1 ho
    exact (evConv_sound h1 o1).trans (evConvs_sound h2 o2)
   ·cases h
  ·cases h
theorem evPre_sound : ∀ {orc : List Orc} {st st' : St} {obs : List Prop} {orc' : List Orc}, evPre st orc = some (st', obs, orc') → AllP obs → Conv st st'
 | [], st, st', obs, orc', h, ho => by simp [evPre] at h
 | c :: orc, st, st', obs, orc', h, ho => by
  rw [evPre.eq_def] at h
  split at h
  ·cases h
  ·cases h
   exact fun N w ow φ ts hr => ⟨ow, φ, hr, Mods.refl _ _, fun _ _ => rfl, Nat.le_refl _, rfl⟩
  ·rename_i c' orc2 _ he
   cases he
   split at h
   ·rename_i st1 obs1 h1
    split at h
    ·rename_i st2 obs2 orc2 h2
     cases h
     obtain ⟨o1, o2⟩ := AllP.append.1 ho
     intro N w ow φ ts hr
     obtain ⟨ow1, φ1, r1, m1, p1, n1, k1⟩ := evConv_sound h1 o1 N w ow φ ts hr
     obtain ⟨ow2, φ2, r2, m2, p2, n2, k2⟩ := evPre_sound h2 o2 N w ow1 φ1 ts r1
     exact ⟨ow2, φ2, r2, m1.trans m2, fun i hi => by rw [p2 i (by omega), p1 i hi], Nat.le_trans n1 n2, k2.trans k1⟩
    ·cases h
   ·cases h
theorem evOne0_sound (hT : TOK P T) {st st' : St} {o : Oper} {orc : List Orc} {obs : List Prop} (h : evOne0 P T N st o orc = some (st', obs)) (ho : AllP obs) : OpJ P N o st st' := by
 unfold evOne0 at h
 split at h
 ·rename_i h1
  split at h
  ·rename_i h2
   cases h
   obtain ⟨o1, o2⟩ := AllP.append.1 ho
   obtain ⟨g1, g2, g3⟩ := evOp_sound hT h1 o1
   exact g1.conv g2 (evConvs_sound h2 o2)
  ·cases h
 ·cases h
theorem evOne_sound (hT : TOK P T) {st st' : St} {o : Oper} {orc : List Orc} {obs : List Prop} (h : evOne P T N st o orc = some (st', obs)) (ho : AllP obs) : OpJ P N o st st' := by
 unfold evOne at h
 split at h
 ·split at h
  ·rename_i st1 obs1 orc2 h1
   split at h
   ·rename_i st2 obs2 h2
    cases h
    obtain ⟨o1, o2⟩ := AllP.append.1 ho
    intro w ow φ ts hr
    obtain ⟨ow1, φ1, r1, m1, p1, n1, _⟩ := evPre_sound h1 o1 N w ow φ ts hr
    obtain ⟨w2, ow2, φ2, v, r2, m2, p2, s2⟩ := evOne0_sound hT h2 o2 w ow1 φ1 ts r1
    exact ⟨w2, ow2, φ2, v, r2, m1.trans m2, fun i hi => by rw [p2 i (by omega), p1 i hi], s2⟩
   ·cases h
  ·cases h
 ·exact evOne0_sound hT h ho
theorem memN_false {l : List Nat} {d : Nat} (h : memN l d = false) : d ∉ l := by
 intro hm
 simp only [memN, List.any_eq_false] at h
 exact h d hm (Nat.beq_refl d)
theorem mem_dsts {ops : Array Oper} {j d : Nat} {o : Oper} (h : ops[j]? = some o) (hd : o.dst = some d) : d ∈ dstsOf ops.toList :=
 List.mem_filterMap.2 ⟨o, by rw [← Array.getElem?_toList] at h; exact List.mem_of_getElem? h, hd⟩
theorem baseIn_false {l : List Nat} {it : It} (h : baseIn l it = false) {d : Nat} (hd : d ∈ l) : it.base ≠ some d := by
 intro e
 simp only [baseIn, e] at h
 exact memN_false h hd
theorem drawAll_mem {ops : Array Oper} {st : St} {its : List (Option (Nat × It))} {orcs : List (List Orc)} : ∀ {l : List Nat} {r : List Prop × List Prop}, drawAll P T N ops st its orcs l = some r → AllP r.1 → AllP r.2 → ∀ i ∈ l, ∃ o', drawOne P T N ops st its orcs i = some o' ∧ AllP o'.1 ∧ AllP o'.2
 | [], r, h, ho, ho', i, hi => by simp at hi
 | j :: l, r, h, ho, ho', i, hi => by
  simp only [drawAll] at h
  split at h
  ·rename_i a b h1 h2
   cases h
   obtain ⟨o1, o2⟩ := AllP.append.1 ho
   obtain ⟨o3, o4⟩ := AllP.append.1 ho'
   rcases List.mem_cons.1 hi with rfl | hi
   ·exact ⟨a, h1, o1, o3⟩
   ·exact drawAll_mem h2 o2 o4 i hi
  ·cases h
theorem evDraw_sound (hT : TOK P T) {ops : Array Oper} {st : St} {its : List (Option (Nat × It))} {orcs : List (List Orc)} {obs : List Prop} (h : evDraw P T N ops st its orcs = some obs) (ho : AllP obs) : DrawOK P N ops st st.env its := by
 unfold evDraw at h
 split at h
 ·rename_i hb
  obtain ⟨r, hr, rfl⟩ : ∃ r, drawAll P T N ops st its orcs (List.range ops.size) = some r ∧ obs = r.1 ++ r.2 := by
   split at h
   ·rename_i r hr; cases h; exact ⟨r, hr, rfl⟩
   ·cases h
  clear h
  simp only [drawB, Bool.and_eq_true, List.all_eq_true, List.mem_range] at hb
  obtain ⟨⟨h1, h2⟩, h3⟩ := hb
  have hlen := Nat.eq_of_beq_eq_true h3
  have lt : ∀ {i : Nat} {o : Oper}, ops[i]? = some o → i < ops.size := fun {i o} hi => by
   rcases Nat.lt_or_ge i ops.size with h | h
   ·exact h
   ·rw [Array.getElem?_eq_none h] at hi; cases hi
  refine ⟨fun i o hi j hj => ?_, fun i d it hi => ?_, fun i j o o' d hi hj hij hd => ?_, fun e he j o d hj hd => ?_, fun i o hi => ?_⟩
  ·have := h1 i (lt hi)
   rw [hi] at this
   simp only [Bool.and_eq_true, List.all_eq_true, Nat.blt_eq] at this
   exact this.1.1 j hj
  ·have hil : i < ops.size := by
    rcases Nat.lt_or_ge i ops.size with h | h
    ·exact h
    ·rw [List.getElem?_eq_none (by omega)] at hi; cases hi
   have ho : ops[i]? = some ops[i] := by simp [hil]
   have := h1 i hil
   rw [ho] at this
   simp only [Bool.and_eq_true, hi] at this
   obtain ⟨⟨_, ⟨h4, h5⟩, h6⟩, _⟩ := this
   refine ⟨_, ho, ?_, by simpa using h5, fun j o' d' hj hd' => baseIn_false (by simpa using h6) (mem_dsts hj hd')⟩
   split at h4
   ·rename_i d' hd'
    rw [hd', Nat.eq_of_beq_eq_true h4]
   ·cases h4
  ·have := h1 i (lt hi)
   rw [hi] at this
   simp only [Bool.and_eq_true, hd, List.all_eq_true, List.mem_range, Bool.or_eq_true] at this
   rcases this.2 j (lt hj) with h4 | h4
   ·exact absurd (Nat.eq_of_beq_eq_true h4) hij
   ·rw [hj] at h4
    intro hd'
    simp only [hd', Nat.beq_refl] at h4
    cases h4
  ·have := h2 e he
   simp only [Bool.not_eq_true', Bool.and_eq_true] at this
   exact ⟨fun e' => memN_false this.1 (by rw [e']; exact mem_dsts hj hd), baseIn_false this.2 (mem_dsts hj hd)⟩
  ·obtain ⟨obs', h4, h5, h5'⟩ := drawAll_mem hr (AllP.append.1 ho).1 (AllP.append.1 ho).2 i (List.mem_range.2 (lt hi))
   unfold drawOne at h4
   split at h4
   ·rename_i o1 ho1
    rw [hi] at ho1; cases ho1
    split at h4
    ·rename_i hw
     split at h4
     ·rename_i hn
      exact .inl ⟨hw, fun e he => by rw [hn] at he; cases he⟩
     ·rename_i d hn
      split at h4
      ·rename_i hdN
       exact .inl ⟨hw, fun e he => by rw [hn] at he; cases he; exact ⟨rfl, by simpa [Nat.blt_eq] using hdN⟩⟩
      ·cases h4
     ·cases h4
    ·rename_i hw
     split at h4
     ·rename_i st' obs1 h6
      cases h4
      have := evOne_sound hT h6 h5
      rw [h5'.1] at this
      exact .inr ⟨hw, this⟩
     ·cases h4
    ·cases h4
   ·cases h4
 ·cases h
theorem memN_true {l : List Nat} {d : Nat} (h : memN l d = true) : d ∈ l := by
 obtain ⟨x, hx, he⟩ := List.any_eq_true.1 h
 rw [Nat.eq_of_beq_eq_true he]; exact hx
theorem memN_iff {l : List Nat} {d : Nat} : memN l d = true ↔ d ∈ l := ⟨memN_true, fun h => List.any_eq_true.2 ⟨d, h, Nat.beq_refl d⟩⟩
theorem ptB_spec {ops : Array Oper} : ∀ {n i j : Nat}, ptB ops n i j = true → PT ops i j
 | 0, _, _, h => by simp [ptB] at h
 | n + 1, i, j, h => by
  simp only [ptB] at h
  split at h
  ·rename_i o ho
   simp only [Bool.or_eq_true, List.any_eq_true, Bool.and_eq_true] at h
   rcases h with ⟨y, hy, he⟩ | ⟨k, hk, _, hr⟩
   ·exact .base ho (by rw [Nat.eq_of_beq_eq_true he]; exact hy)
   ·exact .step ho hk (ptB_spec hr)
  ·cases h
theorem imposB_spec {ops : Array Oper} {mems X : List Nat} {i : Nat} {o : Oper} (h : imposB ops mems X i o = true) : Impos ops mems X i o := by
 simp only [imposB, Bool.or_eq_true, List.any_eq_true, Bool.and_eq_true, Bool.not_eq_true'] at h
 rcases h with ⟨x, hx, ⟨h3, h1⟩ | ⟨h1, h2⟩⟩ | ⟨h1, h2⟩
 ·exact .inl ⟨x, hx, ptB_spec h1, memN_false h3⟩
 ·exact .inr (.inl ⟨x, hx, memN_true h1, ptB_spec h2⟩)
 ·exact .inr (.inr ⟨memN_true h1, memN_true h2⟩)
theorem setB_spec {X Y : List Nat} (h : setB X Y = true) (x : Nat) : x ∈ X ↔ x ∈ Y := by
 simp only [setB, Bool.and_eq_true, List.all_eq_true] at h
 exact ⟨fun hx => memN_true (h.1 x hx), fun hx => memN_true (h.2 x hx)⟩
theorem findSet_spec {Y : List Nat} : ∀ {l : List (List Nat)} {k s : Nat}, findSet Y k l = some s → k ≤ s ∧ ∃ X, l[s - k]? = some X ∧ setB X Y = true
 | [], _, _, h => by simp [findSet] at h
 | X :: l, k, s, h => by
  simp only [findSet] at h
  split at h
  ·rename_i hb; cases h; exact ⟨Nat.le_refl _, X, by simp, hb⟩
  ·obtain ⟨h1, Z, h2, h3⟩ := findSet_spec h
   refine ⟨by omega, Z, ?_, h3⟩
   rw [show s - k = s - (k + 1) + 1 by omega, List.getElem?_cons_succ]; exact h2
theorem nextB_spec {mems : List Nat} {sets : List (List Nat)} {X : List Nat} {i s s' : Nat} (hX : sets[s]? = some X) (h : nextB mems sets X i s = some s') : ∃ X', sets[s']? = some X' ∧ Next mems X X' i := by
 unfold nextB at h
 split at h
 ·rename_i hm; cases h; exact ⟨X, hX, .inl ⟨memN_false hm, rfl⟩⟩
 ·rename_i hm
  obtain ⟨_, X', h2, h3⟩ := findSet_spec h
  rw [Nat.sub_zero] at h2
  exact ⟨X', h2, .inr ⟨memN_true hm, fun x => by rw [setB_spec h3 x]; simp⟩⟩
theorem drawAll2_mem {ops : Array Oper} {st : St} {its : List (Option (Nat × It))} {mems : List Nat} {sets : List (List Nat)} {Ss : List (Env × Objs × Ext)} {orcs : List (List (List Orc))} : ∀ {l : List (Nat × Nat)} {r : List Prop × List Prop}, drawAll2 P T N ops st its mems sets Ss orcs l = some r → AllP r.1 → AllP r.2 → ∀ e ∈ l, ∃ o', drawOne2 P T N ops st its mems sets Ss orcs e.1 e.2 = some o' ∧ AllP o'.1 ∧ AllP o'.2
 | [], r, h, ho, ho', i, hi => by simp at hi
 | j :: l, r, h, ho, ho', i, hi => by
  simp only [drawAll2] at h
  split at h
  ·rename_i a b h1 h2
   cases h
   obtain ⟨o1, o2⟩ := AllP.append.1 ho
   obtain ⟨o3, o4⟩ := AllP.append.1 ho'
   rcases List.mem_cons.1 hi with rfl | hi
   ·exact ⟨a, h1, o1, o3⟩
   ·exact drawAll2_mem h2 o2 o4 i hi
  ·cases h
theorem drawB_spec {ops : Array Oper} {C : Env} {its : List (Option (Nat × It))} (hb : drawB ops C its = true) :
  (∀ (i : Nat) (o : Oper), ops[i]? = some o → ∀ j ∈ preds o, j < i) ∧
  (∀ (i d : Nat) (it : It), (its[i]?).join = some (d, it) → ∃ o : Oper, ops[i]? = some o ∧ o.dst = some d ∧ it.deps (.sl d) = [] ∧ ∀ (j : Nat) (o' : Oper) (d' : Nat), ops[j]? = some o' → o'.dst = some d' → it.base ≠ some d') ∧
  (∀ (i j : Nat) (o o' : Oper) (d : Nat), ops[i]? = some o → ops[j]? = some o' → i ≠ j → o.dst = some d → o'.dst ≠ some d) ∧
  (∀ e ∈ C, ∀ (j : Nat) (o : Oper) (d : Nat), ops[j]? = some o → o.dst = some d → e.1 ≠ d ∧ e.2.base ≠ some d) := by
 simp only [drawB, Bool.and_eq_true, List.all_eq_true, List.mem_range] at hb
 obtain ⟨⟨h1, h2⟩, h3⟩ := hb
 have hlen := Nat.eq_of_beq_eq_true h3
 have lt : ∀ {i : Nat} {o : Oper}, ops[i]? = some o → i < ops.size := fun {i o} hi => by
  rcases Nat.lt_or_ge i ops.size with h | h
  ·exact h
  ·rw [Array.getElem?_eq_none h] at hi; cases hi
 refine ⟨fun i o hi j hj => ?_, fun i d it hi => ?_, fun i j o o' d hi hj hij hd => ?_, fun e he j o d hj hd => ?_⟩
 ·have := h1 i (lt hi)
  rw [hi] at this
  simp only [Bool.and_eq_true, List.all_eq_true, Nat.blt_eq] at this
  exact this.1.1 j hj
 ·have hil : i < ops.size := by
   rcases Nat.lt_or_ge i ops.size with h | h
   ·exact h
   ·rw [List.getElem?_eq_none (by omega)] at hi; cases hi
  have ho : ops[i]? = some ops[i] := by simp [hil]
  have := h1 i hil
  rw [ho] at this
  simp only [Bool.and_eq_true, hi] at this
  obtain ⟨⟨_, ⟨h4, h5⟩, h6⟩, _⟩ := this
  refine ⟨_, ho, ?_, by simpa using h5, fun j o' d' hj hd' => baseIn_false (by simpa using h6) (mem_dsts hj hd')⟩
  split at h4
  ·rename_i d' hd'
   rw [hd', Nat.eq_of_beq_eq_true h4]
  ·cases h4
 ·have := h1 i (lt hi)
  rw [hi] at this
  simp only [Bool.and_eq_true, hd, List.all_eq_true, List.mem_range, Bool.or_eq_true] at this
  rcases this.2 j (lt hj) with h4 | h4
  ·exact absurd (Nat.eq_of_beq_eq_true h4) hij
  ·rw [hj] at h4
   intro hd'
   simp only [hd', Nat.beq_refl] at h4
   cases h4
 ·have := h2 e he
  simp only [Bool.not_eq_true', Bool.and_eq_true] at this
  exact ⟨fun e' => memN_false this.1 (by rw [e']; exact mem_dsts hj hd), baseIn_false this.2 (mem_dsts hj hd)⟩
theorem evDraw2_sound (hT : TOK P T) {ops : Array Oper} {st : St} {its : List (Option (Nat × It))} {mems : List Nat} {sets : List (List Nat)} {Ss : List (Env × Objs × Ext)} {orcs : List (List (List Orc))} {obs : List Prop} (h : evDraw2 P T N ops st its mems sets Ss orcs = some obs) (ho : AllP obs) : DrawOK2 P N ops st its mems sets Ss ∧ ∀ s X, sets[s]? = some X → (∀ x ∈ mems, x ∈ X) → s + 1 = sets.length := by
 unfold evDraw2 at h
 split at h
 ·rename_i hb
  simp only [Bool.and_eq_true] at hb
  obtain ⟨hb, hb2⟩ := hb
  obtain ⟨b1, b2, b3, b4⟩ := drawB_spec hb
  simp only [drawB2, Bool.and_eq_true, List.all_eq_true] at hb2
  obtain ⟨⟨⟨⟨⟨c1, c2⟩, c6⟩, c3⟩, c4⟩, c5⟩ := hb2
  have c1 := Nat.eq_of_beq_eq_true c1
  split at h
  ·rename_i obs1 h1
   cases h
   obtain ⟨o0, o1⟩ := ho
   refine ⟨⟨b1, b2, b3, fun s X C O E hX hO e he j o d hj hd hgd => ?_, fun s C O E hO => Nat.le_of_ble_eq_true (c2 _ (List.mem_of_getElem? hO)), fun i d it hi => ?_, ⟨?_, o0⟩, fun x hx => by simpa [Nat.blt_eq] using c3 x hx, fun i o hi s X C O E hX hO => ?_⟩, fun s X hX hall => ?_⟩
   ·have := c4 s (List.mem_range.2 (lt_of_get hX))
    simp only [hX, hO, Bool.and_eq_true, coreB, List.all_eq_true] at this
    have hjl : j < ops.size := by
     rcases Nat.lt_or_ge j ops.size with h | h
     ·exact h
     ·rw [Array.getElem?_eq_none h] at hj; cases hj
    have := this.1 e he j (List.mem_range.2 hjl)
    simp only [hj, hd, Bool.or_eq_true, Bool.and_eq_true, Bool.not_eq_true'] at this
    rcases this with (h0 | ⟨h1, h2⟩) | ⟨h1, h2⟩
    ·cases hg : o.guard <;> rw [hg] at h0 hgd
     ·cases hgd
     ·cases h0
    ·exact .inl ⟨memN_true h1, memN_true h2⟩
    ·refine .inr ⟨fun e' => by (rw [e', Nat.beq_refl] at h1; cases h1), fun e' => ?_⟩
     simp only [e', Bool.not_eq_true', Nat.beq_refl] at h2
     cases h2
   ·have hm : some (d, it) ∈ its := by
     rcases h : its[i]? with _ | x
     ·rw [h] at hi; simp at hi
     ·rw [h] at hi
      simp only [Option.join_some] at hi
      subst hi
      exact List.mem_of_getElem? h
    exact c6 _ hm
   ·split at c5
    ·assumption
    ·cases c5
   ·have hil : i < ops.size := by
     rcases Nat.lt_or_ge i ops.size with h | h
     ·exact h
     ·rw [Array.getElem?_eq_none h] at hi; cases hi
    obtain ⟨obs', h4, h5, h5'⟩ := drawAll2_mem h1 (AllP.append.1 o1).1 (AllP.append.1 o1).2 (i, s) (List.mem_flatMap.2 ⟨i, List.mem_range.2 hil, List.mem_map.2 ⟨s, List.mem_range.2 (lt_of_get hX), rfl⟩⟩)
    unfold drawOne2 at h4
    simp only [hi, hX, hO] at h4
    split at h4
    ·rename_i him; exact .inl (imposB_spec him)
    ·split at h4
     ·cases h4
     ·rename_i s' hs'
      obtain ⟨X', hX', hnx⟩ := nextB_spec hX hs'
      split at h4
      ·cases h4
      ·rename_i S' hO'
       split at h4
       ·rename_i hw
        split at h4
        ·rename_i hn
         cases h4
         obtain ⟨rfl, _⟩ := h5
         exact .inr (.inl ⟨hw, fun e he => by (rw [hn] at he; cases he), s', X', hX', hO', hnx⟩)
        ·rename_i d hn
         split at h4
         ·rename_i hdN
          cases h4
          obtain ⟨rfl, _⟩ := h5
          exact .inr (.inl ⟨hw, fun e he => by (rw [hn] at he; cases he; exact ⟨rfl, by simpa [Nat.blt_eq] using hdN⟩), s', X', hX', hO', hnx⟩)
         ·cases h4
        ·cases h4
       ·rename_i hw
        split at h4
        ·rename_i st' obs1 h6
         cases h4
         have := evOne_sound hT h6 h5
         rw [h5'.1] at this
         exact .inr (.inr ⟨hw, s', X', S'.1, S'.2.1, S'.2.2, hX', hO', hnx, this⟩)
        ·cases h4
       ·cases h4
   ·have := c4 s (List.mem_range.2 (lt_of_get hX))
    have hl := lt_of_get hX
    have hS : Ss[s]? = some (Ss[s]'(by omega)) := List.getElem?_eq_getElem (by omega)
    simp only [hX, hS, Bool.and_eq_true, Bool.or_eq_true, Bool.not_eq_true'] at this
    rcases this.2 with h2 | h2
    ·exfalso
     have : mems.all (memN X) = true := List.all_eq_true.2 fun x hx => memN_iff.2 (hall x hx)
     rw [h2] at this; cases this
    ·exact Nat.eq_of_beq_eq_true h2
  ·cases h
 ·cases h
theorem Rel.drew {w : World} {ow : Nat → Lab} {φ : Nat → Nat} {ts : Array Value} {st : St} (h : Rel N w ow φ ts st) : Rel N { w with drawn := w.drawn + 1 } ow φ ts st := by
 have hk : Keep [] w ow { w with drawn := w.drawn + 1 } ow := (Keep.refl w ow).drew
 refine ⟨h.tsz, fun t it hm => RIt.keep hk (by simp) (fun _ _ => rfl) (Nat.le_refl _) rfl (fun _ _ => rfl) (by simp) (h.env t it hm), fun i cs hc => ?_, ?_, h.bnd, h.marks⟩
 ·exact RObj.keep hk (by simp) (fun _ _ => rfl) (Nat.le_refl _) (lt_of_get hc) (by simp) (fun _ _ _ _ => .inr (by simp)) (h.objs i cs hc)
 ·exact st.ext.ok w _ ow ow (fun b _ => ⟨rfl, rfl⟩) (fun _ _ h => h) (Nat.le_refl _) h.ext
theorem Mods.drew (w : World) (ow : Nat → Lab) : Mods w ow { w with drawn := w.drawn + 1 } ow := ⟨rfl, rfl, rfl, Nat.le_refl _, fun _ _ _ => ⟨rfl, rfl⟩⟩
theorem pre_some {obs obs' : List Prop} {r : EvR} {o : Out} {orc : List Orc} (h : pre obs r = some (o, obs', orc)) (ho : AllP obs') : ∃ obs2, r = some (o, obs2, orc) ∧ AllP obs ∧ AllP obs2 := by
 unfold pre at h
 split at h
 ·rename_i o' obs2 orc'
  cases h
  obtain ⟨h1, h2⟩ := AllP.append.1 ho
  exact ⟨_, rfl, h1, h2⟩
 ·cases h
theorem Reach.head {todo todo1 : List Item} {st : St} {out : Out} (hs : ∀ (b : Frame) (a : Act) (cs : List Frame) (w : World), step P (lone (b.atR a todo) cs w) = .next (lone (b.atR a todo1) cs w)) (h : Reach P N todo1 st out B) : Reach P N todo st out B := by
 intro w ow φ ts hr g
 obtain ⟨w', ow', φ', ts', k', ms, h1, h2, h3, h4, h5, h6⟩ := h w ow φ ts hr g
 exact ⟨w', ow', φ', ts', k', ms, h1, h2, h3, h4, h5, fun b hb hB df cs => .head (hs b _ cs w) (h6 b hb hB df cs)⟩
theorem Reach.conv {todo : List Item} {st st1 : St} {out : Out} (hc : Conv st st1) (h : Reach P N todo st1 out B) : Reach P N todo st out B := by
 intro w ow φ ts hr g
 obtain ⟨ow1, φ1, r1, m1, p1, n1, k1⟩ := hc N w ow φ ts hr
 obtain ⟨w', ow', φ', ts', k', ms, h1, h2, h3, h4, h5, h6⟩ := h w ow1 φ1 ts r1 g
 exact ⟨w', ow', φ', ts', k', ms, h1, m1.trans h2, fun i hi hi2 => by rw [h3 i (by omega) hi2, p1 i hi], h4, h5, fun b hb hB df cs => h6 b hb hB df cs⟩
theorem Reach.region {id : Nat} {ops : Array Oper} {k : List Item} {st st1 : St} {out : Out} (h1 : OpsJ P N ops (List.range ops.size) st st1) (h : Reach P N k st1 out B) : Reach P N (.code (.region id ops false) :: k) st out B := by
 intro w ow φ ts hr g
 obtain ⟨w1, ow1, φ1, ts1, r1, m1, p1, n1, k1, s1⟩ := h1 w ow φ ts hr
 obtain ⟨w', ow', φ', ts', k', ms, r2, m2, p2, n2, t2, s2⟩ := h w1 ow1 φ1 ts1 r1 g
 exact ⟨w', ow', φ', ts', k', ms, r2, m1.trans m2, fun i hi hi2 => by rw [p2 i (by omega) hi2, p1 i hi], n2.le m1.size, t2, fun b hb hB df cs => .head stepR_region ((s1 b df k cs).trans (.head stepR_region_end (s2 b hb hB df cs)))⟩
theorem Reach.cond {c : Operand} {x y : Code} {k : List Item} {st : St} {out : Out} {t : Bool} (hv : ∀ w ow φ ts, Rel N w ow φ ts st → evalT ts c = .bool t) (h : Reach P N (.code (pickC t x y) :: k) st out B) : Reach P N (.code (.cond c x y) :: k) st out B := by
 intro w ow φ ts hr g
 obtain ⟨w', ow', φ', ts', k', ms, h1, h2, h3, h4, h5, h6⟩ := h w ow φ ts hr g
 refine ⟨w', ow', φ', ts', k', ms, h1, h2, h3, h4, h5, fun b hb hB df cs => .head (stepR_cond (t := t) (by rw [evalT_eq]; exact hv w ow φ ts hr)) ?_⟩
 cases t <;> exact h6 b hb hB df cs
theorem Reach.draw (hmix : P.follows .mixedOrders = true) {id : Nat} {ops : Array Oper} {k : List Item} {st : St} {its : List (Option (Nat × It))} {out : Out} (h1 : DrawOK P N ops st st.env its)
  (h : Reach P N k { st with env := entsOf its (List.range ops.size) ++ st.env } out B) : Reach P N (.code (.region id ops true) :: k) st out B := by
 intro w ow φ ts hr g
 have hr' := hr.drew
 obtain ⟨w1, ow1, φ1, ts1, listed, hall, ⟨hrel, hits⟩, m1, p1, s1⟩ := draw_go h1 ops.size (w.tape w.drawn (.order g id)) (Array.replicate ops.size false) _ ow φ ts (by simp) (by
  refine Nat.le_trans (List.length_filter_le _ _) ?_
  simp) (⟨hr', fun i d it hi _ => by
   exfalso
   simp only [Array.getD_eq_getD_getElem?, Array.getElem?_replicate] at hi
   split at hi <;> simp at hi⟩ : DInv N st st.env its (Array.replicate ops.size false) _ ow φ ts)
 have hrel' : Rel N w1 ow1 φ1 ts1 { st with env := entsOf its (List.range ops.size) ++ st.env } := by
  refine Rel.sub (st := st) hrel fun t it hm => ?_
  rcases List.mem_append.1 hm with hm | hm
  ·obtain ⟨j, hj, hje⟩ := List.mem_filterMap.1 hm
   exact hits j t it (hall j (List.mem_range.1 hj)) hje
  ·exact hrel.env _ _ hm
 obtain ⟨w', ow', φ', ts', k', ms, r2, m2, p2, n2, t2, s2⟩ := h w1 ow1 φ1 ts1 hrel' g
 refine ⟨w', ow', φ', ts', k', ms, r2, ((Mods.drew w ow).trans m1).trans m2, fun i hi hi2 => by rw [p2 i hi hi2, p1 i hi], n2.le (Nat.le_trans (Mods.drew w ow).size m1.size), t2, fun b hb hB df cs => .head stepR_region_draw ?_⟩
 simp only [Region.schedule, hmix, Bool.true_or, if_true, hb]
 exact (s1 b df k cs).trans (.head stepR_region_end (s2 b hb hB df cs))
theorem stepR_scope {b : Frame} {a : Act} {k : List Item} {cs : List Frame} {w : World} {c : Code} :
  step P (lone (b.atR a (.code (.scope c) :: k)) cs w) = .next (lone (b.atR a (.code c :: .inScope c :: k)) cs w) :=
 step_lone_go (by simp [stepG, stepG.exec, Frame.atR])
theorem stepR_inScope {b : Frame} {a : Act} {k : List Item} {cs : List Frame} {w : World} {c : Code} :
  step P (lone (b.atR a (.inScope c :: k)) cs w) = .next (lone (b.atR a k) cs w) :=
 step_lone_go (by simp [stepG, stepG.exec, Frame.atR])
theorem Reach.draw2 (hmix : P.follows .mixedOrders = true) {id : Nat} {ops : Array Oper} {k : List Item} {st : St} {its : List (Option (Nat × It))} {mems : List Nat} {sets : List (List Nat)} {Ss : List (Env × Objs × Ext)} {S : Env × Objs × Ext} {out : Out} (h1 : DrawOK2 P N ops st its mems sets Ss) (hfin : ∀ s X, sets[s]? = some X → (∀ x ∈ mems, x ∈ X) → s + 1 = sets.length) (hlen : sets.length = Ss.length) (hO : Ss[Ss.length - 1]? = some S)
  (h : Reach P N k { st with env := entsOf its (List.range ops.size) ++ S.1, objs := S.2.1, ext := S.2.2 } out B) : Reach P N (.code (.region id ops true) :: k) st out B := by
 intro w ow φ ts hr g
 have hr' := hr.drew
 have hf : ∀ i : Nat, (Array.replicate ops.size false).getD i false = false := fun i => by
  simp only [Array.getD_eq_getD_getElem?, Array.getElem?_replicate]
  split <;> rfl
 obtain ⟨w1, ow1, φ1, ts1, listed, hall, ⟨_, s, X, C, O, E, hX, hO1, hstg, hrel, hits⟩, m1, p1, s1⟩ := draw_go2 h1 ops.size (w.tape w.drawn (.order g id)) (Array.replicate ops.size false) _ ow φ ts (by simp) (by
  refine Nat.le_trans (List.length_filter_le _ _) ?_
  simp) (⟨fun i o hi => by (rw [hf i] at hi; cases hi), 0, [], st.env, st.objs, st.ext, h1.first.1, h1.first.2, fun x _ => by rw [hf x]; simp, hr', fun i d it hi _ => by (rw [hf i] at hi; cases hi)⟩ : DInv2 N ops st its mems sets Ss (Array.replicate ops.size false) _ ow φ ts)
 have hs := hfin s X hX fun x hx => (hstg x hx).1 (hall x (h1.mem x hx))
 rw [show Ss.length - 1 = s by omega] at hO
 rw [hO] at hO1; cases hO1
 have hOl := h1.lens _ _ _ _ hO
 have hrel' : Rel N w1 ow1 φ1 ts1 { st with env := entsOf its (List.range ops.size) ++ C, objs := O, ext := E } := by
  refine Rel.sub (st := { st with env := C, objs := O, ext := E }) hrel fun t it hm => ?_
  rcases List.mem_append.1 hm with hm | hm
  ·obtain ⟨j, hj, hje⟩ := List.mem_filterMap.1 hm
   exact RIt.grow hOl (hits j t it (hall j (List.mem_range.1 hj)) hje)
  ·exact hrel.env _ _ hm
 obtain ⟨w', ow', φ', ts', k', ms, r2, m2, p2, n2, t2, s2⟩ := h w1 ow1 φ1 ts1 hrel' g
 refine ⟨w', ow', φ', ts', k', ms, r2, ((Mods.drew w ow).trans m1).trans m2, fun i hi hi2 => by rw [p2 i (by show i < O.length; omega) hi2, p1 i hi], n2.le (Nat.le_trans (Mods.drew w ow).size m1.size), t2, fun b hb hB df cs => .head stepR_region_draw ?_⟩
 simp only [Region.schedule, hmix, Bool.true_or, if_true, hb]
 exact (s1 b df k cs).trans (.head stepR_region_end (s2 b hb hB df cs))
theorem evDraw2_len {ops : Array Oper} {st : St} {its : List (Option (Nat × It))} {mems : List Nat} {sets : List (List Nat)} {Ss : List (Env × Objs × Ext)} {orcs : List (List (List Orc))} {obs : List Prop} (h : evDraw2 P T N ops st its mems sets Ss orcs = some obs) : sets.length = Ss.length := by
 unfold evDraw2 at h
 split at h
 ·rename_i hb
  simp only [Bool.and_eq_true, drawB2] at hb
  exact Nat.eq_of_beq_eq_true hb.2.1.1.1.1.1
 ·cases h
theorem stopAt_sound {todo : List Item} {st : St} {out : Out} {orc orc' : List Orc} {obs : List Prop} (he : stopAt todo st orc = some (out, obs, orc')) (ho : AllP obs) : Reach P N todo st out B := by
 unfold stopAt at he
 split at he
 ·split at he
  ·rename_i hcv
   split at he
   ·rename_i hfew
    cases he
    refine Reach.conv (evConvs_sound hcv ho) ?_
    exact fun w ow φ ts hr g => ⟨w, ow, φ, ts, _, [], Rel.fewer hfew hr, Mods.refl _ _, fun _ _ _ => rfl, Marks.nil, rfl, fun b hb hB df cs => .refl _ _⟩
   ·cases he
  ·cases he
 ·split at he
  ·rename_i hcv
   cases he
   refine Reach.conv (evConvs_sound hcv ho) ?_
   exact fun w ow φ ts hr g => ⟨w, ow, φ, ts, _, [], hr, Mods.refl _ _, fun _ _ _ => rfl, Marks.nil, rfl, fun b hb hB df cs => .refl _ _⟩
  ·cases he
theorem normC_steps {P : Program} {b : Frame} {a : Act} {cs : List Frame} {w : World} : ∀ (c : Code) (k kn : List Item), Steps P (lone (b.atR a k) cs w) (lone (b.atR a kn) cs w) →
  Steps P (lone (b.atR a (.code c :: k)) cs w) (lone (b.atR a (normC c k kn)) cs w)
 | .seq x y, k, kn, h => by
  simp only [normC]
  exact .head stepR_seq (normC_steps x _ _ (normC_steps y k kn h))
 | .skip, k, kn, h => .head stepR_skip h
 | .label _, k, kn, h => .head stepR_label h
 | .loop c, k, kn, h => .one stepR_loop
 | .region .., k, kn, h => .refl _ _
 | .cond .., k, kn, h => .refl _ _
 | .block .., k, kn, h => .refl _ _
 | .scope _, k, kn, h => .refl _ _
 | .exit _, k, kn, h => .refl _ _
 | .goto _, k, kn, h => .refl _ _
 | .ret, k, kn, h => .refl _ _
 | .rangeFunc .., k, kn, h => .refl _ _
 | .refuse _, k, kn, h => .refl _ _
theorem norm_steps {P : Program} {b : Frame} {a : Act} {cs : List Frame} {w : World} : ∀ (k : List Item), Steps P (lone (b.atR a k) cs w) (lone (b.atR a (norm k)) cs w)
 | [] => .refl _ _
 | .code c :: k => normC_steps c k _ (norm_steps k)
 | .inLoop c :: k => .one stepR_inLoop
 | .inBlock _ :: k => .refl _ _
 | .inScope _ :: k => .refl _ _
 | .inRegion .. :: k => .refl _ _
 | .inRangeFunc _ :: k => .refl _ _
 | .endRangeFunc _ :: k => .refl _ _
 | .beginRound :: k => .refl _ _
 | .call .. :: k => .refl _ _
 | .extern .. :: k => .refl _ _
theorem evRun_sound (hP : POK P T) : ∀ {n : Nat} {todo : List Item} {st : St} {out : Out} {orc orc' : List Orc} {obs : List Prop}, evRun P T N n todo st orc = some (out, obs, orc') → AllP obs → Reach P N todo st out B
 | 0, todo, st, out, orc, orc', obs, he, ho => by simp [evRun] at he
 | n + 1, todo, st, out, orc, orc', obs, he, ho => by
  have ih : ∀ {todo : List Item} {st : St} {orc : List Orc} {out : Out} {orc' : List Orc} {obs : List Prop}, evRun P T N n todo st orc = some (out, obs, orc') → AllP obs → Reach P N todo st out B := fun h h' => evRun_sound hP h h'
  rw [evRun.eq_def] at he; simp only [] at he
  split at he
  ·rename_i r hc
   cases he
   split at hc
   ·split at hc
    ·split at hc
     ·rename_i st2 _ hcv
      split at hc
      ·rename_i hfew
       cases hc
       refine Reach.conv (evConvs_sound hcv ho) ?_
       intro w ow φ ts hr g
       have : ∃ k', k' = norm todo ∧ ∀ (b : Frame), b.fn = g → B b → ∀ (df : List Deferred) (cs : List Frame), Steps P (lone (b.atR ⟨ts, df⟩ todo) cs w) (lone (b.atR ⟨ts, df⟩ k') cs w) := by
        exact ⟨_, rfl, fun b hb hB df cs => norm_steps _⟩
       obtain ⟨k', hk, hs⟩ := this
       exact ⟨w, ow, φ, ts, k', [], Rel.fewer hfew hr, Mods.refl _ _, fun _ _ _ => rfl, Marks.nil, hk, hs⟩
      ·cases hc
     ·cases hc
    ·cases hc
   ·split at hc
    ·split at hc
     ·rename_i st2 _ hcv
      cases hc
      refine Reach.conv (evConvs_sound hcv ho) ?_
      intro w ow φ ts hr g
      have : ∃ k', k' = norm todo ∧ ∀ (b : Frame), b.fn = g → B b → ∀ (df : List Deferred) (cs : List Frame), Steps P (lone (b.atR ⟨ts, df⟩ todo) cs w) (lone (b.atR ⟨ts, df⟩ k') cs w) := by
       exact ⟨_, rfl, fun b hb hB df cs => norm_steps _⟩
      obtain ⟨k', hk, hs⟩ := this
      exact ⟨w, ow, φ, ts, k', [], hr, Mods.refl _ _, fun _ _ _ => rfl, Marks.nil, hk, hs⟩
     ·cases hc
    ·cases hc
   ·split at hc <;> cases hc
   ·cases hc
  ·rename_i st1 obs1 orc1 hc
   obtain ⟨obs2, h2, o1, o2⟩ := pre_some he ho
   split at hc
   ·split at hc
    ·split at hc
     ·split at hc <;> cases hc
     ·cases hc
    ·cases hc
   ·split at hc
    ·split at hc <;> cases hc
    ·cases hc
   ·split at hc
    ·rename_i hcv
     cases hc
     exact Reach.conv (evConv_sound hcv o1) (ih h2 o2)
    ·cases hc
   ·cases hc
  ·split at he
   ·exact Reach.head (fun _ _ _ _ => stepR_skip) (ih he ho)
   ·exact Reach.head (fun _ _ _ _ => stepR_label) (ih he ho)
   ·exact Reach.head (fun _ _ _ _ => stepR_inBlock) (ih he ho)
   ·exact Reach.head (fun _ _ _ _ => stepR_seq) (ih he ho)
   ·split at he
    ·rename_i t hx
     exact Reach.cond (fun w ow φ ts hr => opd_rel hr hx) (ih he ho)
    ·rename_i e hx
     split at he
     ·rename_i t orc1 _
      obtain ⟨obs2, h2, ⟨rfl, _⟩, o2⟩ := pre_some he ho
      refine Reach.cond (fun w ow φ ts hr => ?_) (ih h2 o2)
      obtain ⟨B, h1, _, _⟩ := opd_rel hr hx
      simp only [RP, RD] at h1
      exact h1.1
     ·cases he
    ·cases he
   ·exact Reach.head (fun _ _ _ _ => stepR_scope) (ih he ho)
   ·exact Reach.head (fun _ _ _ _ => stepR_inScope) (ih he ho)
   ·exact Reach.head (fun _ _ _ _ => stepR_block) (ih he ho)
   ·exact Reach.head (fun _ _ _ _ => stepR_loop) (ih he ho)
   ·exact Reach.head (fun _ _ _ _ => stepR_inLoop) (ih he ho)
   ·split at he
    ·rename_i k' hk
     exact Reach.head (fun _ _ _ _ => stepR_exit hk) (ih he ho)
    ·split at he
     ·exact stopAt_sound he ho
     ·cases he
   ·split at he
    ·rename_i k' hk
     exact Reach.head (fun _ _ _ _ => stepR_goto hk) (ih he ho)
    ·split at he
     ·exact stopAt_sound he ho
     ·cases he
   ·split at he
    ·split at he
     ·rename_i hcv
      cases he
      exact Reach.conv (evConvs_sound hcv ho) fun w ow φ ts hr g => ⟨w, ow, φ, ts, _, [], hr, Mods.refl _ _, fun _ _ _ => rfl, Marks.nil, .inl rfl, fun b hb hB df cs => .refl _ _⟩
     ·cases he
    ·cases he
   ·have base : ∀ {st : St} {k : List Item}, Reach P N (.code .ret :: k) st (.ret st) B := fun w ow φ ts hr g =>
     ⟨w, ow, φ, ts, _, [], hr, Mods.refl _ _, fun _ _ _ => rfl, Marks.nil, .inr ⟨_, rfl⟩, fun b hb hB df cs => .refl _ _⟩
    split at he
    ·exact stopAt_sound he ho
    ·split at he
     ·rename_i hcv
      split at he
      ·rename_i hcl
       cases he
       refine Reach.conv (evConvs_sound hcv ho) fun w ow φ ts hr g => ?_
       obtain ⟨h1, h2⟩ := evClos_ok hcl hr
       exact ⟨w, _, φ, ts, _, [], h1, h2, fun _ _ _ => rfl, Marks.nil, .inr ⟨_, rfl⟩, fun b hb hB df cs => .refl _ _⟩
      ·cases he
     ·cases he
    ·split at he
     ·rename_i hcv
      split at he
      ·rename_i hfew
       cases he
       refine Reach.conv (evConvs_sound hcv ho) ?_
       exact fun w ow φ ts hr g => ⟨w, ow, φ, ts, _, [], Rel.fewer hfew hr, Mods.refl _ _, fun _ _ _ => rfl, Marks.nil, .inr ⟨_, rfl⟩, fun b hb hB df cs => .refl _ _⟩
      ·cases he
     ·cases he
    ·split at he
     ·rename_i hcv
      cases he
      exact Reach.conv (evConvs_sound hcv ho) base
     ·cases he
    ·cases he
     exact base
   ·split at he
    ·rename_i h1
     obtain ⟨obs2, h2, o1, o2⟩ := pre_some he ho
     exact Reach.region (evOps_sound hP.1 h1 o1) (ih h2 o2)
    ·cases he
   ·split at he
    ·rename_i ts0 its0 orcs0 orc10 _
     split at he
     ·rename_i hpk
      split at he
      ·rename_i h1
       obtain ⟨obs2, h2, o1, o2⟩ := pre_some he ho
       refine Reach.conv (evConv_sound (orc := .env ts0) (obs := []) ?_ trivial) (Reach.draw hP.2 (evDraw_sound hP.1 h1 o1) (ih h2 o2))
       simp only [evConv, hpk]
      ·cases he
     ·cases he
    ·split at he
     ·rename_i h1
      obtain ⟨obs2, h2, o1, o2⟩ := pre_some he ho
      exact Reach.draw hP.2 (evDraw_sound hP.1 h1 o1) (ih h2 o2)
     ·cases he
    ·rename_i ts0 mems0 sets0 Ss0 its0 orcs0 orc10 _
     split at he
     ·rename_i hpk
      split at he
      ·rename_i h1 hO
       obtain ⟨obs2, h2, o1, o2⟩ := pre_some he ho
       obtain ⟨d1, d2⟩ := evDraw2_sound hP.1 h1 o1
       refine Reach.conv (evConv_sound (orc := .env ts0) (obs := []) ?_ trivial) (Reach.draw2 hP.2 d1 d2 (evDraw2_len h1) hO (ih h2 o2))
       simp only [evConv, hpk]
      ·cases he
     ·cases he
    ·cases he
   ·cases he
end


def More (w : World) (ow : Nat → Lab) (w' : World) (ow' : Nat → Lab) : Prop := ∀ b, ow b ≠ .free → w'.heap[b]? = w.heap[b]? ∧ ow' b = ow b
section
variable {w w' : World} {ow ow' : Nat → Lab} {φ φ' : Nat → Nat} {n n' : Nat} {ts : Array Value}
theorem More.z (h : More w ow w' ow') : (∀ b, Fz ow b → w'.heap[b]? = w.heap[b]?) ∧ (∀ b, Fz ow b → Fz ow' b) :=
 ⟨fun b hb => (h b (by rw [show ow b = .frz from hb]; simp)).1, fun b hb => by have := (h b (by rw [show ow b = .frz from hb]; simp)).2; exact this.trans hb⟩
theorem Own.more (h : More w ow w' ow') (hφ : ∀ i, i < n → φ' i = φ i) (hn : n ≤ n') {m : Nat} {p : PV} {v : Value} {l : Lab} (hl : l ≠ .free) (ho : Own w ow φ n m p v l) : Own w' ow' φ' n' m p v l := by
 obtain ⟨B, hr, hnd, hb⟩ := ho
 obtain ⟨z1, z2⟩ := h.z
 have key : ∀ b ∈ B, w'.heap[b]? = w.heap[b]? ∧ ow' b = ow b := fun b hm => h b (by rw [hb b hm]; exact hl)
 exact ⟨B, RP.mono z1 z2 hφ hn m p v B (fun b hm => (key b hm).1) hr, hnd, fun b hm => (key b hm).2.trans (hb b hm)⟩
theorem Pl.Hd.more (h : More w ow w' ow') (hφ : ∀ i, i < n → φ' i = φ i) (hn : n ≤ n') : ∀ (p : Pl) (v : Value), p.Hd w ow φ n ts v → p.Hd w' ow' φ' n' ts v
 | .slot t, v, hh => by simpa only [Pl.Hd] using hh
 | .obj i j, v, hh => by
  simp only [Pl.Hd] at hh ⊢
  obtain ⟨hi, hl, hm⟩ := hh
  have hk := h (φ i) (by rw [hl]; simp)
  rw [hφ i hi]
  exact ⟨Nat.lt_of_lt_of_le hi hn, hk.2.trans hl, by rw [mem_of_block hk.1]; exact hm⟩
 | .el p s i o, v, hh => by
  simp only [Pl.Hd] at hh ⊢
  obtain ⟨a, len, cap, hh, hl, hm⟩ := hh
  have hk := h a.block (by rw [hl]; exact p.root_ne_free)
  exact ⟨a, len, cap, Pl.Hd.more h hφ hn p _ hh, hk.2.trans hl, by rw [mem_of_block hk.1]; exact hm⟩
theorem RV.more (h : More w ow w' ow') (hφ : ∀ i, i < n → φ' i = φ i) (hn : n ≤ n') {l : Lab} (hlf : l ≠ .free) {it : It} {v : Value} (hr : RV w ow φ n ts l it v) : RV w' ow' φ' n' ts l it v := by
 obtain ⟨z1, z2⟩ := h.z
 cases it with
 | v m p => exact Own.more h hφ hn hlf hr
 | nils => exact hr
 | ap s xs =>
  rcases hr with ho | ⟨a, ha, hr⟩
  ·exact .inl (Own.more h hφ hn hlf ho)
  ·exact .inr ⟨a, ha, RD.mono z1 z2 0 _ _ [] (by simp) hr⟩
 | tup ps =>
  obtain ⟨vs, B, hv, hr, hnd, hl⟩ := hr
  have key : ∀ b ∈ B, w'.heap[b]? = w.heap[b]? ∧ ow' b = ow b := fun b hm => h b (by rw [hl b hm]; exact hlf)
  exact ⟨vs, B, hv, RTup.mono z1 z2 hφ hn ps _ B (fun b hm => (key b hm).1) hr, hnd, fun b hm => (key b hm).2.trans (hl b hm)⟩
 | b p => exact Pl.Hd.more h hφ hn p v hr
 | bc p s lo k =>
  rcases hr with ⟨hv, h1⟩ | ⟨a, len, cap, a', cap', hv, h1⟩
  ·exact .inl ⟨Pl.Hd.more h hφ hn p _ hv, h1⟩
  ·exact .inr ⟨a, len, cap, a', cap', Pl.Hd.more h hφ hn p _ hv, h1⟩
 | be p s i o =>
  obtain ⟨a, len, cap, hv, h1⟩ := hr
  exact ⟨a, len, cap, Pl.Hd.more h hφ hn p _ hv, h1⟩
 | kb b => exact hr
 | nn s xs => exact ⟨RD.mono z1 z2 0 _ _ [] (by simp) hr.1, hr.2⟩
 | pi o off => exact ⟨by rw [hφ o hr.2]; exact hr.1, Nat.lt_of_lt_of_le hr.2 hn⟩
 | fa cs =>
  obtain ⟨b, off, hv, h1, h2⟩ := hr
  have hk := h b (by rw [h1]; simp)
  exact ⟨b, off, hv, hk.2.trans h1, by rw [mem_of_block hk.1]; exact RC.mono z1 z2 0 cs _ off [] (by simp) h2⟩
theorem RIt.more (h : More w ow w' ow') (hφ : ∀ i, i < n → φ' i = φ i) (hn : n ≤ n') {t : Nat} {it : It} (hr : RIt w ow φ n ts t it) : RIt w' ow' φ' n' ts t it := by
 obtain ⟨v, hv, hr⟩ := hr
 exact ⟨v, hv, RV.more h hφ hn (by simp) hr⟩
theorem RObj.more (h : More w ow w' ow') (hφ : ∀ i, i < n → φ' i = φ i) (hn : n ≤ n') {i : Nat} {cs : List (Nat × PV)} (hi : i < n) (hr : RObj w ow φ n i cs) : RObj w' ow' φ' n' i cs := by
 obtain ⟨c, e, hh, hsz, hl, hcs⟩ := hr
 have hk := h (φ i) (by rw [hl]; simp)
 refine ⟨c, e, by rw [hφ i hi]; exact hk.1.trans hh, hsz, by rw [hφ i hi]; exact hk.2.trans hl, fun j m p hj => ?_⟩
 obtain ⟨v, h1, h2, h3, h4⟩ := hcs j m p hj
 exact ⟨v, h1, h2, h3, Own.more h hφ hn (by simp) h4⟩
theorem Rel.more {N : Nat} {st : St} (h : More w ow w' ow') (hfree : ∀ b, b < st.ext.lo → ow b = .free → ow' b = .free) (hsize : w.heap.size ≤ w'.heap.size) (hbnd : ∀ b, ow' b ≠ .free → b < w'.heap.size) (hφ : ∀ i, i < st.objs.length → φ' i = φ i) (hr : Rel N w ow φ ts st) : Rel N w' ow' φ' ts st := by
 refine ⟨hr.tsz, fun t it hm => RIt.more h hφ (Nat.le_refl _) (hr.env t it hm), fun i cs hc => RObj.more h hφ (Nat.le_refl _) (lt_of_get hc) (hr.objs i cs hc), ?_, hbnd, fun r hm => ?_⟩
 ·exact st.ext.ok w w' ow ow' (fun b hb => h b (by rcases hb with hb | hb <;> rw [hb] <;> simp)) hfree hsize hr.ext
 ·obtain ⟨h1, h2⟩ := hr.marks r hm
  have hk := h r (by rw [h2]; simp)
  exact ⟨hk.1.trans h1, hk.2.trans h2⟩
end
section
variable {P : Program} {N : Nat}
theorem unwind_marks : ∀ (ms : List Nat) (w : World), (∀ r ∈ ms, w.heap[r]? = some (.deferred (some []))) → ms.Nodup →
  ∃ w' : World, w'.os = w.os ∧ w'.tape = w.tape ∧ w'.output = w.output ∧ w'.heap.size = w.heap.size ∧ (∀ b, b ∉ ms → w'.heap[b]? = w.heap[b]?) ∧
   ∀ (fr : Frame) (cs : List Frame), fr.mode = .returning → fr.defers = dfOf ms → Steps P (lone fr cs w) (lone { fr with defers := [] } cs w')
 | [], w, h, hn => ⟨w, rfl, rfl, rfl, rfl, fun _ _ => rfl, fun fr cs hm hd => by
   have : { fr with defers := [] } = fr := by cases fr; simp only at hd; subst hd; rfl
   rw [this]; exact .refl _ _⟩
 | r :: ms, w, h, hn => by
  have h1 := h r (by simp)
  obtain ⟨hn1, hn2⟩ := List.nodup_cons.1 hn
  obtain ⟨w', a1, a2, a3, a4, a5, a6⟩ := unwind_marks ms (w.putObj r (.deferred none)) (fun r' hr' => by
   rw [World.putObj_heap_other (fun e => hn1 (by rw [← e]; exact hr'))]; exact h r' (by simp [hr'])) hn2
  refine ⟨w', a1, a2, a3, a4.trans World.putObj_size, fun b hb => ?_, fun fr cs hm hd => ?_⟩
  ·rw [a5 b (fun e => hb (by simp [e])), World.putObj_heap_other (fun e => hb (by simp [e]))]
  ·refine .head (step_collected (by rw [hm]; simp) (show fr.defers = { target := .collected r, args := #[] } :: dfOf ms from hd) rfl (run_takeDeferred h1)) ?_
   exact a6 { fr with defers := [] ++ dfOf ms } cs hm rfl
theorem leave_marks {w' : World} {ow' : Nat → Lab} {φ' : Nat → Nat} {ts' : Array Value} {st' : St} {lo : Nat} {ms : List Nat} (hr : Rel N w' ow' φ' ts' st') (hk : Marks w' ow' lo ms) :
  ∃ w2 : World, Rel N w2 ow' φ' ts' st' ∧ w2.os = w'.os ∧ w2.tape = w'.tape ∧ w2.output = w'.output ∧ w2.heap.size = w'.heap.size ∧ (∀ b, b < lo → w2.heap[b]? = w'.heap[b]?) ∧ More w' ow' w2 ow' ∧
   ∀ (fr : Frame) (cs : List Frame), fr.mode = .returning → fr.defers = dfOf ms → Steps P (lone fr cs w') (lone { fr with defers := [] } cs w2) := by
 obtain ⟨w2, a1, a2, a3, a4, a5, a6⟩ := unwind_marks (P := P) ms w' (fun r hr => (hk.2 r hr).2.2.1) hk.1
 have hmore : More w' ow' w2 ow' := fun b hb => ⟨a5 b fun hm => hb (hk.2 b hm).2.2.2, rfl⟩
 exact ⟨w2, Rel.more hmore (fun _ _ h => h) (by rw [a4]; exact Nat.le_refl _) (fun b hb => by rw [a4]; exact hr.bnd b hb) (fun _ _ => rfl) hr, a1, a2, a3, a4, fun b hb => a5 b fun hm => by have := (hk.2 b hm).1; omega, hmore, a6⟩
end


def argEnv : Nat → List PV → Env
 | _, [] => []
 | i, p :: ps => (i, .v 0 p) :: argEnv (i + 1) ps
def st0 (args : List PV) (oc : Objs) : St := { env := argEnv 0 args, objs := oc, ext := .none, marks := [] }
def resLab (rs : List Nat) (l : Lab) : Lab := match l with
 | .sl t => if t ∈ rs then .sl 0 else .free
 | l => l
def resLab2 (rs : List Nat) (ci cj : Nat) (l : Lab) : Lab := if l = .ce ci cj then .sl 0 else resLab rs l
section
variable {P : Program} {T : Tab} {N : Nat}
theorem RPs.get {w : World} {Z : Nat → Prop} {φ : Nat → Nat} {n : Nat} : ∀ {ps : List PV} {vs : List Value}, RPs w Z φ n ps vs → vs.length = ps.length ∧ ∀ (i : Nat) (p : PV), ps[i]? = some p → ∃ v, vs[i]? = some v ∧ RP w Z φ n 0 p v []
 | [], vs, h => by simp only [RPs] at h; subst h; simp
 | q :: ps, vs, h => by
  simp only [RPs] at h
  obtain ⟨v, vs', rfl, h1, h2⟩ := h
  obtain ⟨k1, k2⟩ := RPs.get h2
  refine ⟨by simp [k1], fun i p hi => ?_⟩
  cases i with
  | zero => simp at hi; subst hi; exact ⟨v, rfl, h1⟩
  | succ i => simpa using k2 i p (by simpa using hi)
theorem argEnv_mem : ∀ {ps : List PV} {k : Nat} {t : Nat} {it : It}, (t, it) ∈ argEnv k ps → ∃ (i : Nat) (p : PV), ps[i]? = some p ∧ t = k + i ∧ it = .v 0 p
 | [], k, t, it, h => by simp [argEnv] at h
 | q :: ps, k, t, it, h => by
  simp only [argEnv] at h
  rcases List.mem_cons.1 h with h | h
  ·cases h; exact ⟨0, q, rfl, rfl, rfl⟩
  ·obtain ⟨i, p, h1, h2, h3⟩ := argEnv_mem h
   exact ⟨i + 1, p, by simpa using h1, by omega, h3⟩
def ResOK (P : Program) (N : Nat) (fn : Func) (st : St) (rs : List Nat) (res : It) : Prop :=
 ∀ w ow φ ts, Rel N w ow φ ts st → ∃ v, (results fn ts).run P w = .ok v w ∧ RV w (fun b => resLab rs (ow b)) φ st.objs.length #[] (.sl 0) res v
theorem FunJ.of {f : FuncId} {fn : Func} {body : Code} {args : List PV} {oc : Objs} {res : It} {st' : St} {rs : List Nat} (hf : P.funcs[f]? = some fn) (hb : fn.body = some body) (hname : (fn.name == "runtime.NumGoroutine") = false) (hN : fn.ntmps = N) (hle : args.length ≤ N)
  (h : Reach P N [.code body] (st0 args oc) (.ret st')) (hlo : oc.length ≤ st'.objs.length) (hm : st'.marks = []) (hres : ResOK P N fn st' rs res) : FunJ P f args oc res st'.objs := by
 refine ⟨⟨fn, hf, by rw [hb]; rfl, hname⟩, fun w ow φ vs hargs hobjs hbnd => ?_⟩
 obtain ⟨a1, a2⟩ := RPs.get hargs
 -- the slots are nobody's yet
 let ow0 : Nat → Lab := fun b => match ow b with
  | .frz => .frz
  | .bx i => .bx i
  | .ce i j => .ce i j
  | _ => .free
 let ts0 : Array Value := vs.toArray ++ Array.replicate (N - vs.length) undef
 have z0 : ∀ b, Fz ow b → Fz ow0 b := fun b hb => by simp only [Fz] at hb ⊢; simp only [ow0, hb]
 have hts : ts0.size = N := by simp [ts0, a1]; omega
 have hr0 : Rel N w ow0 φ ts0 (st0 args oc) := by
  refine ⟨hts, fun t it hm => ?_, fun i cs hc => ?_, trivial, fun b hb => hbnd b fun e => hb (by simp only [ow0, e]), by simp [st0]⟩
  ·obtain ⟨i, p, h1, rfl, rfl⟩ := argEnv_mem hm
   obtain ⟨v, h2, h3⟩ := a2 i p h1
   refine ⟨v, ?_, own0 (RP.mono (fun _ _ => rfl) z0 (fun _ _ => rfl) (Nat.le_refl _) 0 p v [] (by simp) h3)⟩
   have hi : i < vs.length := lt_of_get h2
   simp only [ts0, Nat.zero_add]
   rw [Array.getElem?_append_left (by simpa using hi)]
   simpa using h2
  ·obtain ⟨c, e, hh, hsz, hl, hcs⟩ := hobjs i cs hc
   refine ⟨c, e, hh, hsz, by simp only [ow0, hl], fun j m p hj => ?_⟩
   obtain ⟨v, h1, h2, h3, B, h4, h5, h6⟩ := hcs j m p hj
   exact ⟨v, h1, h2, h3, B, RP.mono (fun _ _ => rfl) z0 (fun _ _ => rfl) (Nat.le_refl _) m p v B (fun _ _ => rfl) h4, h5, fun b hb => by simp only [ow0, h6 b hb]⟩
 obtain ⟨w1, ow', φ', ts', k', ms, hr1, hm1', hφ', hmk, hk2, hst⟩ := h w ow0 φ ts0 hr0 f
 obtain ⟨w', hr', e1, e2, e3, e4, e5, _, hleave⟩ := leave_marks (P := P) hr1 hmk
 have hm' : Mods w ow0 w' ow' := ⟨e1.trans hm1'.os, e2.trans hm1'.tape, e3.trans hm1'.output, by rw [e4]; exact hm1'.size, fun b hb hl => ⟨(e5 b hb).trans (hm1'.keep b hb hl).1, (hm1'.keep b hb hl).2⟩⟩
 obtain ⟨v, hv1, hv2⟩ := hres w' ow' φ' ts' hr'
 refine ⟨v, w', fun b => resLab rs (ow' b), φ', fun cs => ?_, ⟨hm'.os, hm'.tape, hm'.output, hm'.size, fun b hb hl => ?_⟩, fun i hi => hφ' i hi (Nat.lt_of_lt_of_le hi hlo), hlo, hv2, fun i cs hc => ?_, fun b hb => ?_⟩
 ·have hen : (Frame.enter P f vs.toArray .normal).atR ⟨ts0, []⟩ [.code body] = Frame.enter P f vs.toArray .normal := by
   simp [Frame.enter, Frame.atR, hf, hb, hN, ts0, st0, dfOf]
  have hs := hst (Frame.enter P f vs.toArray .normal) rfl rfl [] cs
  rw [hen] at hs
  have hk2 : k' = [] ∨ ∃ k2, k' = .code .ret :: k2 := hk2
  rcases hk2 with hk2 | ⟨k2, hk2⟩
  ·subst hk2
   exact ⟨{ (Frame.enter P f vs.toArray .normal).atR ⟨ts', []⟩ [] with mode := .returning }, hs.trans ((.head (stepR_end rfl) (hleave { (Frame.enter P f vs.toArray .normal).atR ⟨ts', dfOf ms ++ []⟩ [] with mode := .returning } cs rfl (List.append_nil _)))), rfl, rfl, rfl, rfl, fn, hf, hv1⟩
  ·subst hk2
   exact ⟨{ (Frame.enter P f vs.toArray .normal).atR ⟨ts', []⟩ (.code .ret :: k2) with mode := .returning }, hs.trans ((.head (stepR_ret rfl) (hleave { (Frame.enter P f vs.toArray .normal).atR ⟨ts', dfOf ms ++ []⟩ (.code .ret :: k2) with mode := .returning } cs rfl (List.append_nil _)))), rfl, rfl, rfl, rfl, fn, hf, hv1⟩
 ·have h1 : ow0 b = ow b := by rcases hl with hl | hl <;> simp only [ow0, hl]
  obtain ⟨k1, k2⟩ := hm'.keep b hb (by rw [h1]; exact hl)
  refine ⟨k1, ?_⟩
  simp only [k2, h1]
  rcases hl with hl | hl <;> rw [hl] <;> rfl
 ·obtain ⟨c, e, hh, hsz, hl, hcs⟩ := hr'.objs i cs hc
  have z : ∀ b, Fz ow' b → Fz (fun b => resLab rs (ow' b)) b := fun b hb => by simp only [Fz] at hb ⊢; rw [hb]; rfl
  refine ⟨c, e, hh, hsz, by simp only [hl]; rfl, fun j m p hj => ?_⟩
  obtain ⟨v, h1, h2, h3, B, h4, h5, h6⟩ := hcs j m p hj
  exact ⟨v, h1, h2, h3, B, RP.mono (fun _ _ => rfl) z (fun _ _ => rfl) (Nat.le_refl _) m p v B (fun _ _ => rfl) h4, h5, fun b hb => by simp only [h6 b hb]; rfl⟩
 ·exact hr'.bnd b fun e => hb (by simp only [e]; rfl)
theorem resLab_frz {ow : Nat → Lab} {rs : List Nat} (b : Nat) : Fz ow b → Fz (fun b => resLab rs (ow b)) b := fun hb => by simp only [Fz] at hb ⊢; rw [hb]; rfl
theorem Own.res {w : World} {ow : Nat → Lab} {φ : Nat → Nat} {n m : Nat} {p : PV} {v : Value} {t : Nat} {rs : List Nat} (ht : t ∈ rs) (h : Own w ow φ n m p v (.sl t)) : Own w (fun b => resLab rs (ow b)) φ n m p v (.sl 0) := by
 obtain ⟨B, h1, h2, h3⟩ := h
 exact ⟨B, RP.mono (fun _ _ => rfl) resLab_frz (fun _ _ => rfl) (Nat.le_refl _) m p v B (fun _ _ => rfl) h1, h2, fun b hb => by simp [h3 b hb, resLab, ht]⟩
def resIt : It → Option It
 | .v m p => some (.v m p)
 | .ap s xs => some (.ap s xs)
 | .kb b => some (.v 0 (.d (.bool b)))
 | .nils => some .nils
 | _ => none
theorem ResOK.tmp {fn : Func} {st : St} {t : Nat} {it res : It} (hr : fn.results = #[.tmp t]) (hl : look st.env t = some it) (hi : resIt it = some res) : ResOK P N fn st [t] res := by
 intro w ow φ ts h
 obtain ⟨v, hv, hrv⟩ := h.env _ _ (look_mem hl)
 refine ⟨v, by simp [results, hr, hv, Array.getD_eq_getD_getElem?], ?_⟩
 cases it with
 | v m p => simp only [resIt] at hi; cases hi; exact Own.res (by simp) hrv
 | ap s xs =>
  simp only [resIt] at hi; cases hi
  rcases hrv with hrv | ⟨a, h1, h2⟩
  ·exact .inl (Own.res (by simp) hrv)
  ·exact .inr ⟨a, h1, RD.mono (fun _ _ => rfl) resLab_frz 0 _ _ [] (by simp) h2⟩
 | kb b =>
  simp only [resIt] at hi; cases hi
  have hrv : v = .bool b := hrv
  exact own0 (by simp [RP, RD, hrv])
 | nils => simp only [resIt] at hi; cases hi; exact hrv
 | _ => simp [resIt] at hi
theorem ResOK.none {fn : Func} {st : St} (hr : fn.results = #[]) : ResOK P N fn st [] (.tup []) := by
 intro w ow φ ts h
 exact ⟨.tuple #[], by simp [results, hr], #[], [], rfl, ⟨rfl, rfl⟩, by simp, by simp⟩
def pairIt : It → Option (Nat × PV)
 | .v m p => some (m, p)
 | .kb b => some (0, .d (.bool b))
 | .nils => some (0, .d (.sl 1 []))
 | _ => none
theorem pairIt_own {w : World} {ow : Nat → Lab} {φ : Nat → Nat} {n : Nat} {ts : Array Value} {t : Nat} {it : It} {v : Value} {m : Nat} {p : PV} (h : RV w ow φ n ts (.sl t) it v) (hp : pairIt it = some (m, p)) : Own w ow φ n m p v (.sl t) := by
 cases it with
 | v m p => simp only [pairIt] at hp; cases hp; exact h
 | kb b => simp only [pairIt] at hp; cases hp; have h : v = .bool b := h; exact own0 (by simp [RP, RD, h])
 | nils =>
  simp only [pairIt] at hp; cases hp
  have h : v = .slice none 0 0 := h
  refine own0 ?_
  simp only [RP, RD, h]
  exact ⟨trivial, Nat.le_refl _, Option.none, 0, rfl, by simp, by simp, by simp, by simp⟩
 | _ => simp [pairIt] at hp
theorem FunJ.calls {f : FuncId} {args : List PV} {p : PV} {oc' : Objs} (h : FunJ P f args [] (.v 0 p) oc') {w : World} {vs : List Value} (hv : RPs w (fun b => b < w.heap.size) (fun _ => 0) 0 args vs) :
  Calls P f vs.toArray w fun e w' => (∃ v, e = .returned v ∧ ∃ Z φ n, RP w' Z φ n 0 p v []) ∧ Go.RowKit.Below w.heap.size w w' := by
 obtain ⟨_, h⟩ := h
 let ow : Nat → Lab := fun b => if b < w.heap.size then .frz else .free
 have hz : ∀ b, b < w.heap.size → Fz ow b := fun b hb => by simp [Fz, ow, hb]
 obtain ⟨v, w', ow', φ', hc, hm, _, _, hrv, _, _⟩ := h w ow (fun _ => 0) vs (RPs.mono (fun _ _ => rfl) hz (fun _ _ => rfl) (Nat.le_refl _) _ _ hv) (by simp) (fun b hb => by
  rcases Nat.lt_or_ge b w.heap.size with h | h
  ·exact h
  ·exact absurd (by simp [ow]; omega) hb)
 obtain ⟨B, h1, _, _⟩ := hrv
 obtain rfl := RP.zeroB h1
 intro cs
 obtain ⟨fr, h2, h3, h4⟩ := hc cs
 exact ⟨.returned v, w', fr, ⟨⟨v, rfl, _, _, _, h1⟩, ⟨hm.os, hm.tape, hm.output, hm.size, fun k hk => (hm.keep k hk (.inr (hz k hk))).1⟩⟩, h2, h3, h4⟩
end


def argEnvO : Nat → List (Nat × PV) → Env
 | _, [] => []
 | i, (m, p) :: ps => (i, .v m p) :: argEnvO (i + 1) ps
def st0O (args : List (Nat × PV)) (oc : Objs) : St := { env := argEnvO 0 args, objs := oc, ext := .none, marks := [] }
section
variable {P : Program} {T : Tab} {N : Nat}
theorem argEnvO_mem : ∀ {ps : List (Nat × PV)} {k : Nat} {t : Nat} {it : It}, (t, it) ∈ argEnvO k ps → ∃ (i m : Nat) (p : PV), ps[i]? = some (m, p) ∧ t = k + i ∧ it = .v m p
 | [], k, t, it, h => by simp [argEnvO] at h
 | (m, q) :: ps, k, t, it, h => by
  simp only [argEnvO] at h
  rcases List.mem_cons.1 h with h | h
  ·cases h; exact ⟨0, m, q, rfl, rfl, rfl⟩
  ·obtain ⟨i, m', p, h1, h2, h3⟩ := argEnvO_mem h
   exact ⟨i + 1, m', p, by simpa using h1, by omega, h3⟩
theorem FunO.of {f : FuncId} {fn : Func} {body : Code} {args : List (Nat × PV)} {oc : Objs} {res : It} {st' : St} {rs : List Nat} (hf : P.funcs[f]? = some fn) (hb : fn.body = some body) (hname : (fn.name == "runtime.NumGoroutine") = false) (hN : fn.ntmps = N) (hle : args.length ≤ N)
  (h : Reach P N [.code body] (st0O args oc) (.ret st')) (hlo : oc.length ≤ st'.objs.length) (hm : st'.marks = []) (hres : ResOK P N fn st' rs res) : FunO P f args oc res st'.objs := by
 refine ⟨⟨fn, hf, by rw [hb]; rfl, hname⟩, fun w ow φ vs hargs hobjs hbnd => ?_⟩
 obtain ⟨a1, a2⟩ := hargs
 -- the slots are nobody's yet
 let ow0 : Nat → Lab := fun b => match ow b with
  | .frz => .frz
  | .bx i => .bx i
  | .ce i j => .ce i j
  | .sl t => if t < args.length then .sl t else .free
  | _ => .free
 let ts0 : Array Value := vs.toArray ++ Array.replicate (N - vs.length) undef
 have z0 : ∀ b, Fz ow b → Fz ow0 b := fun b hb => by simp only [Fz] at hb ⊢; simp only [ow0, hb]
 have hts : ts0.size = N := by simp [ts0, a1]; omega
 have hr0 : Rel N w ow0 φ ts0 (st0O args oc) := by
  refine ⟨hts, fun t it hm => ?_, fun i cs hc => ?_, trivial, fun b hb => hbnd b fun e => hb (by simp only [ow0, e]), by simp [st0O]⟩
  ·obtain ⟨i, m, p, h1, rfl, rfl⟩ := argEnvO_mem hm
   obtain ⟨v, h2, B, h3, h4, h5⟩ := a2 i m p h1
   have hia : i < args.length := lt_of_get h1
   refine ⟨v, ?_, B, RP.mono (fun _ _ => rfl) z0 (fun _ _ => rfl) (Nat.le_refl _) m p v B (fun _ _ => rfl) h3, h4, fun b hb => by simp only [ow0, h5 b hb, Nat.zero_add]; rw [if_pos hia]⟩
   have hi : i < vs.length := lt_of_get h2
   simp only [ts0, Nat.zero_add]
   rw [Array.getElem?_append_left (by simpa using hi)]
   simpa using h2
  ·obtain ⟨c, e, hh, hsz, hl, hcs⟩ := hobjs i cs hc
   refine ⟨c, e, hh, hsz, by simp only [ow0, hl], fun j m p hj => ?_⟩
   obtain ⟨v, h1, h2, h3, B, h4, h5, h6⟩ := hcs j m p hj
   exact ⟨v, h1, h2, h3, B, RP.mono (fun _ _ => rfl) z0 (fun _ _ => rfl) (Nat.le_refl _) m p v B (fun _ _ => rfl) h4, h5, fun b hb => by simp only [ow0, h6 b hb]⟩
 obtain ⟨w1, ow', φ', ts', k', ms, hr1, hm1', hφ', hmk, hk2, hst⟩ := h w ow0 φ ts0 hr0 f
 obtain ⟨w', hr', e1, e2, e3, e4, e5, _, hleave⟩ := leave_marks (P := P) hr1 hmk
 have hm' : Mods w ow0 w' ow' := ⟨e1.trans hm1'.os, e2.trans hm1'.tape, e3.trans hm1'.output, by rw [e4]; exact hm1'.size, fun b hb hl => ⟨(e5 b hb).trans (hm1'.keep b hb hl).1, (hm1'.keep b hb hl).2⟩⟩
 obtain ⟨v, hv1, hv2⟩ := hres w' ow' φ' ts' hr'
 refine ⟨v, w', fun b => resLab rs (ow' b), φ', fun cs => ?_, ⟨hm'.os, hm'.tape, hm'.output, hm'.size, fun b hb hl => ?_⟩, fun i hi => hφ' i hi (Nat.lt_of_lt_of_le hi hlo), hlo, hv2, fun i cs hc => ?_, fun b hb => ?_⟩
 ·have hen : (Frame.enter P f vs.toArray .normal).atR ⟨ts0, []⟩ [.code body] = Frame.enter P f vs.toArray .normal := by
   simp [Frame.enter, Frame.atR, hf, hb, hN, ts0, st0O, dfOf]
  have hs := hst (Frame.enter P f vs.toArray .normal) rfl rfl [] cs
  rw [hen] at hs
  have hk2 : k' = [] ∨ ∃ k2, k' = .code .ret :: k2 := hk2
  rcases hk2 with hk2 | ⟨k2, hk2⟩
  ·subst hk2
   exact ⟨{ (Frame.enter P f vs.toArray .normal).atR ⟨ts', []⟩ [] with mode := .returning }, hs.trans ((.head (stepR_end rfl) (hleave { (Frame.enter P f vs.toArray .normal).atR ⟨ts', dfOf ms ++ []⟩ [] with mode := .returning } cs rfl (List.append_nil _)))), rfl, rfl, rfl, rfl, fn, hf, hv1⟩
  ·subst hk2
   exact ⟨{ (Frame.enter P f vs.toArray .normal).atR ⟨ts', []⟩ (.code .ret :: k2) with mode := .returning }, hs.trans ((.head (stepR_ret rfl) (hleave { (Frame.enter P f vs.toArray .normal).atR ⟨ts', dfOf ms ++ []⟩ (.code .ret :: k2) with mode := .returning } cs rfl (List.append_nil _)))), rfl, rfl, rfl, rfl, fn, hf, hv1⟩
 ·have h1 : ow0 b = ow b := by rcases hl with hl | hl <;> simp only [ow0, hl]
  obtain ⟨k1, k2⟩ := hm'.keep b hb (by rw [h1]; exact hl)
  refine ⟨k1, ?_⟩
  simp only [k2, h1]
  rcases hl with hl | hl <;> rw [hl] <;> rfl
 ·obtain ⟨c, e, hh, hsz, hl, hcs⟩ := hr'.objs i cs hc
  have z : ∀ b, Fz ow' b → Fz (fun b => resLab rs (ow' b)) b := fun b hb => by simp only [Fz] at hb ⊢; rw [hb]; rfl
  refine ⟨c, e, hh, hsz, by simp only [hl]; rfl, fun j m p hj => ?_⟩
  obtain ⟨v, h1, h2, h3, B, h4, h5, h6⟩ := hcs j m p hj
  exact ⟨v, h1, h2, h3, B, RP.mono (fun _ _ => rfl) z (fun _ _ => rfl) (Nat.le_refl _) m p v B (fun _ _ => rfl) h4, h5, fun b hb => by simp only [h6 b hb]; rfl⟩
 ·exact hr'.bnd b fun e => hb (by simp only [e]; rfl)
end


section
variable {P : Program} {T : Tab} {N : Nat}
theorem RObj.fewer {w : World} {ow : Nat → Lab} {φ : Nat → Nat} {n n' i : Nat} {cs : List (Nat × PV)} (ho : oknC n' cs = true) (h : RObj w ow φ n i cs) : RObj w ow φ n' i cs := by
 obtain ⟨c, e, hh, hsz, hl, hcs⟩ := h
 refine ⟨c, e, hh, hsz, hl, fun j m p hj => ?_⟩
 obtain ⟨v, h1, h2, h3, B, h4, h5, h6⟩ := hcs j m p hj
 have : p.okn n' = true := by
  simp only [oknC, List.all_eq_true] at ho
  exact ho _ (List.mem_of_getElem? hj)
 exact ⟨v, h1, h2, h3, B, RP.fewer m p v B this h4, h5, h6⟩
def resFew (n : Nat) : It → Bool
 | .v _ p => p.okn n
 | .tup ps => ps.all fun c => c.2.okn n
 | .ap _ _ => true
 | .nils => true
 | _ => false
theorem RV.fewer {w : World} {ow : Nat → Lab} {φ : Nat → Nat} {n n' : Nat} {ts : Array Value} {l : Lab} {it : It} {v : Value} (ho : resFew n' it = true) (h : RV w ow φ n ts l it v) : RV w ow φ n' ts l it v := by
 cases it with
 | v m p =>
  obtain ⟨B, h1, h2, h3⟩ := h
  exact ⟨B, RP.fewer m p v B ho h1, h2, h3⟩
 | nils => exact h
 | ap s xs =>
  rcases h with ⟨B, h1, h2, h3⟩ | h
  ·exact .inl ⟨B, RP.fewer 1 _ v B rfl h1, h2, h3⟩
  ·exact .inr h
 | tup ps =>
  obtain ⟨vs, B, h1, h2, h3⟩ := h
  exact ⟨vs, B, h1, RTup.fewer ps _ B ho h2, h3⟩
 | _ => simp [resFew] at ho
theorem FunJ.fewer {f : FuncId} {args : List PV} {oc oc' : Objs} {res : It} (m : Nat) (h : FunJ P f args oc res oc') (hm : oc.length ≤ m) (hm' : m ≤ oc'.length) (hres : resFew m res = true) (hobj : (oc'.take m).all (oknC m) = true) : FunJ P f args oc res (oc'.take m) := by
 obtain ⟨he, h⟩ := h
 refine ⟨he, fun w ow φ vs h1 h2 h3 => ?_⟩
 obtain ⟨v, w', ow', φ', c, md, p, l, r, o, b⟩ := h w ow φ vs h1 h2 h3
 have hl : (oc'.take m).length = m := by rw [List.length_take]; omega
 refine ⟨v, w', ow', φ', c, md, p, by omega, by rw [hl]; exact RV.fewer hres r, fun i cs hi => ?_, b⟩
 rw [hl]
 have hmem : cs ∈ oc'.take m := List.mem_of_getElem? hi
 rw [List.getElem?_take] at hi
 split at hi
 ·exact RObj.fewer (by simp only [List.all_eq_true] at hobj; exact hobj cs hmem) (o i cs hi)
 ·cases hi
def ResOK2 (P : Program) (N : Nat) (fn : Func) (st : St) (rs : List Nat) (ci cj : Nat) (res : It) : Prop :=
 ∀ w ow φ ts, Rel N w ow φ ts st → ∃ v, (results fn ts).run P w = .ok v w ∧ RV w (fun b => resLab2 rs ci cj (ow b)) φ st.objs.length #[] (.sl 0) res v
theorem FunJ.of2 {f : FuncId} {fn : Func} {body : Code} {args : List PV} {oc : Objs} {res : It} {st' : St} {rs : List Nat} {ci cj : Nat} (m0 : Nat) (hf : P.funcs[f]? = some fn) (hb : fn.body = some body) (hname : (fn.name == "runtime.NumGoroutine") = false) (hN : fn.ntmps = N) (hle : args.length ≤ N)
  (h : Reach P N [.code body] (st0 args oc) (.ret st')) (hlo : oc.length ≤ st'.objs.length) (hm : st'.marks = []) (hm1 : oc.length ≤ m0) (hm2 : m0 ≤ st'.objs.length) (hm3 : m0 ≤ ci) (hres : ResOK2 P N fn st' rs ci cj res) (hfew : resFew m0 res = true) (hobjs' : (st'.objs.take m0).all (oknC m0) = true) : FunJ P f args oc res (st'.objs.take m0) := by
 refine ⟨⟨fn, hf, by rw [hb]; rfl, hname⟩, fun w ow φ vs hargs hobjs hbnd => ?_⟩
 obtain ⟨a1, a2⟩ := RPs.get hargs
 -- the slots are nobody's yet
 let ow0 : Nat → Lab := fun b => match ow b with
  | .frz => .frz
  | .bx i => .bx i
  | .ce i j => .ce i j
  | _ => .free
 let ts0 : Array Value := vs.toArray ++ Array.replicate (N - vs.length) undef
 have z0 : ∀ b, Fz ow b → Fz ow0 b := fun b hb => by simp only [Fz] at hb ⊢; simp only [ow0, hb]
 have hts : ts0.size = N := by simp [ts0, a1]; omega
 have hr0 : Rel N w ow0 φ ts0 (st0 args oc) := by
  refine ⟨hts, fun t it hm => ?_, fun i cs hc => ?_, trivial, fun b hb => hbnd b fun e => hb (by simp only [ow0, e]), by simp [st0]⟩
  ·obtain ⟨i, p, h1, rfl, rfl⟩ := argEnv_mem hm
   obtain ⟨v, h2, h3⟩ := a2 i p h1
   refine ⟨v, ?_, own0 (RP.mono (fun _ _ => rfl) z0 (fun _ _ => rfl) (Nat.le_refl _) 0 p v [] (by simp) h3)⟩
   have hi : i < vs.length := lt_of_get h2
   simp only [ts0, Nat.zero_add]
   rw [Array.getElem?_append_left (by simpa using hi)]
   simpa using h2
  ·obtain ⟨c, e, hh, hsz, hl, hcs⟩ := hobjs i cs hc
   refine ⟨c, e, hh, hsz, by simp only [ow0, hl], fun j m p hj => ?_⟩
   obtain ⟨v, h1, h2, h3, B, h4, h5, h6⟩ := hcs j m p hj
   exact ⟨v, h1, h2, h3, B, RP.mono (fun _ _ => rfl) z0 (fun _ _ => rfl) (Nat.le_refl _) m p v B (fun _ _ => rfl) h4, h5, fun b hb => by simp only [ow0, h6 b hb]⟩
 obtain ⟨w1, ow', φ', ts', k', ms, hr1, hm1', hφ', hmk, hk2, hst⟩ := h w ow0 φ ts0 hr0 f
 obtain ⟨w', hr', e1, e2, e3, e4, e5, _, hleave⟩ := leave_marks (P := P) hr1 hmk
 have hm' : Mods w ow0 w' ow' := ⟨e1.trans hm1'.os, e2.trans hm1'.tape, e3.trans hm1'.output, by rw [e4]; exact hm1'.size, fun b hb hl => ⟨(e5 b hb).trans (hm1'.keep b hb hl).1, (hm1'.keep b hb hl).2⟩⟩
 obtain ⟨v, hv1, hv2⟩ := hres w' ow' φ' ts' hr'
 have hl0 : (st'.objs.take m0).length = m0 := by rw [List.length_take]; omega
 refine ⟨v, w', fun b => resLab2 rs ci cj (ow' b), φ', fun cs => ?_, ⟨hm'.os, hm'.tape, hm'.output, hm'.size, fun b hb hl => ?_⟩, fun i hi => hφ' i hi (Nat.lt_of_lt_of_le hi hlo), by rw [hl0]; exact hm1, by rw [hl0]; exact RV.fewer hfew hv2, fun i cs hc => ?_, fun b hb => ?_⟩
 ·have hen : (Frame.enter P f vs.toArray .normal).atR ⟨ts0, []⟩ [.code body] = Frame.enter P f vs.toArray .normal := by
   simp [Frame.enter, Frame.atR, hf, hb, hN, ts0, st0, dfOf]
  have hs := hst (Frame.enter P f vs.toArray .normal) rfl rfl [] cs
  rw [hen] at hs
  have hk2 : k' = [] ∨ ∃ k2, k' = .code .ret :: k2 := hk2
  rcases hk2 with hk2 | ⟨k2, hk2⟩
  ·subst hk2
   exact ⟨{ (Frame.enter P f vs.toArray .normal).atR ⟨ts', []⟩ [] with mode := .returning }, hs.trans ((.head (stepR_end rfl) (hleave { (Frame.enter P f vs.toArray .normal).atR ⟨ts', dfOf ms ++ []⟩ [] with mode := .returning } cs rfl (List.append_nil _)))), rfl, rfl, rfl, rfl, fn, hf, hv1⟩
  ·subst hk2
   exact ⟨{ (Frame.enter P f vs.toArray .normal).atR ⟨ts', []⟩ (.code .ret :: k2) with mode := .returning }, hs.trans ((.head (stepR_ret rfl) (hleave { (Frame.enter P f vs.toArray .normal).atR ⟨ts', dfOf ms ++ []⟩ (.code .ret :: k2) with mode := .returning } cs rfl (List.append_nil _)))), rfl, rfl, rfl, rfl, fn, hf, hv1⟩
 ·have h1 : ow0 b = ow b := by rcases hl with hl | hl <;> simp only [ow0, hl]
  obtain ⟨k1, k2⟩ := hm'.keep b hb (by rw [h1]; exact hl)
  refine ⟨k1, ?_⟩
  simp only [k2, h1]
  rcases hl with hl | hl <;> rw [hl] <;> simp [resLab2, resLab]
 ·have hmem : cs ∈ st'.objs.take m0 := List.mem_of_getElem? hc
  rw [hl0]
  rw [List.getElem?_take] at hc
  split at hc
  ·rename_i him
   refine RObj.fewer (n := st'.objs.length) (by simp only [List.all_eq_true] at hobjs'; exact hobjs' cs hmem) ?_
   obtain ⟨c, e, hh, hsz, hl, hcs⟩ := hr'.objs i cs hc
   have z : ∀ b, Fz ow' b → Fz (fun b => resLab2 rs ci cj (ow' b)) b := fun b hb => by simp only [Fz] at hb ⊢; rw [hb]; simp [resLab2, resLab]
   refine ⟨c, e, hh, hsz, by simp only [hl]; simp [resLab2, resLab], fun j m p hj => ?_⟩
   obtain ⟨v, h1, h2, h3, B, h4, h5, h6⟩ := hcs j m p hj
   exact ⟨v, h1, h2, h3, B, RP.mono (fun _ _ => rfl) z (fun _ _ => rfl) (Nat.le_refl _) m p v B (fun _ _ => rfl) h4, h5, fun b hb => by simp only [h6 b hb]; simp only [resLab2, resLab]; rw [if_neg (by simp; omega)]⟩
  ·cases hc
 ·exact hr'.bnd b fun e => hb (by simp only [e]; simp [resLab2, resLab])
def aggOwn (j0 : Nat) : Nat → Nat → List (Nat × PV) → Option (List D)
 | 0, _, _ => some []
 | n + 1, j, (m, .d x) :: r => if (Nat.beq m (if Nat.beq j j0 then 1 else 0)) = true then (match aggOwn j0 n (j + 1) r with
  | some l => some (x :: l)
  | none => none) else none
 | _ + 1, _, _ => none
theorem aggOwn_get {j0 : Nat} : ∀ {n j : Nat} {cs : List (Nat × PV)} {ds : List D}, aggOwn j0 n j cs = some ds → ds.length = n ∧ ∀ (k : Nat) (x : D), ds[k]? = some x → cs[k]? = some (if j + k = j0 then 1 else 0, PV.d x)
 | 0, j, cs, ds, h => by simp [aggOwn] at h; subst h; simp
 | n + 1, j, [], ds, h => by simp [aggOwn] at h
 | n + 1, j, (m, p) :: r, ds, h => by
  cases p with
  | d x =>
   simp only [aggOwn] at h
   by_cases hm : (Nat.beq m (if Nat.beq j j0 then 1 else 0)) = true
   ·rw [if_pos hm] at h
    split at h
    ·rename_i l hl
     cases h
     obtain ⟨h1, h2⟩ := aggOwn_get hl
     refine ⟨by simp [h1], fun k y hk => ?_⟩
     cases k with
     | zero =>
      simp at hk; subst hk
      have := Nat.eq_of_beq_eq_true hm
      rw [this]
      simp only [List.getElem?_cons_zero, Nat.add_zero]
      by_cases he : j = j0
      ·subst he; simp [Nat.beq_refl]
      ·have : Nat.beq j j0 = false := by
        cases hb : Nat.beq j j0 with
        | false => rfl
        | true => exact absurd (Nat.eq_of_beq_eq_true hb) he
       simp [he, this]
     | succ k => have := h2 k y (by simpa using hk); rw [show j + 1 + k = j + (k + 1) by omega] at this; simpa using this
    ·cases h
   ·rw [if_neg hm] at h; cases h
  | _ => simp [aggOwn] at h
theorem ResOK2.cell (hT : TOK P T) {fn : Func} {st : St} {t ty i j0 : Nat} {cs : List (Nat × PV)} {ds : List D} {ti : TI} (hr : fn.results = #[.cell t ty]) (hl : look st.env t = some (.v 0 (.ptr i 0))) (ht : tab T ty = some ti) (hagg : ti.k.isAgg = true)
  (hcs : st.objs[i]? = some cs) (hds : aggOwn j0 ti.size 0 cs = some ds) (hone : oneSl j0 0 ds = true) (hj0 : Nat.blt j0 ds.length = true) : ResOK2 P N fn st [] i j0 (.v 1 (.agg ds)) := by
 intro w ow φ ts h
 obtain ⟨v, hv, B, hrv, _, _⟩ := h.env _ _ (look_mem hl)
 simp only [RP] at hrv
 obtain ⟨rfl, hon, _⟩ := hrv
 obtain ⟨c, e, hh, hsz, hlab, hc⟩ := h.objs i cs hcs
 have hcell : ∀ j v, c[j]? = some v → w.cell? ⟨φ i, j, none⟩ = some v := fun j v hj => by simp [World.cell?, hh, hj]
 obtain ⟨hl2, hget⟩ := aggOwn_get hds
 have hj0 : j0 < ds.length := by simpa [Nat.blt_eq] using hj0
 obtain ⟨vs, v1, v2⟩ : ∃ vs : List Value, vs.length = ds.length ∧ ∀ j, j < ds.length → vs[j]? = some ((c[j]?).getD undef) :=
  ⟨(List.range ds.length).map fun j => (c[j]?).getD undef, by simp, fun j hj => by simp [hj]⟩
 have key : ∀ (j : Nat) (x : D), ds[j]? = some x → ∃ u, vs[j]? = some u ∧ c[j]? = some u ∧ Own w ow φ st.objs.length (if j = j0 then 1 else 0) (.d x) u (.ce i j) := by
  intro j x hx
  have hjl : j < ds.length := (List.getElem?_eq_some_iff.1 hx).1
  have h1 := hget j x hx
  rw [Nat.zero_add] at h1
  obtain ⟨u, u1, u2, u3, u4⟩ := hc j _ _ h1
  exact ⟨u, by rw [v2 j hjl, u1]; rfl, u1, u4⟩
 obtain ⟨u0, k1, k2, B0, b1, b2, b3⟩ := key j0 ds[j0] (List.getElem?_eq_getElem hj0)
 rw [if_pos rfl] at b1
 simp only [RP] at b1
 have z : ∀ b, Fz ow b → Fz (fun b => resLab2 [] i j0 (ow b)) b := fun b hb => by simp only [Fz] at hb ⊢; rw [hb]; simp [resLab2, resLab]
 refine ⟨.agg vs.toArray, ?_, B0, ?_, b2, fun b hb => by simp [resLab2, b3 b hb]⟩
 ·have hload : (loadVar ty ⟨φ i, 0, none⟩).run P w = .ok (.agg vs.toArray) w := run_loadVar_agg (hT _ _ ht) hagg (by omega) fun j u hu => by
   have hjl : j < ds.length := by have := (List.getElem?_eq_some_iff.1 hu).1; omega
   obtain ⟨u', h1, h2, _⟩ := key j ds[j] (List.getElem?_eq_getElem hjl)
   rw [hu] at h1; cases h1
   rw [addr_add, Nat.zero_add]; exact hcell _ _ h2
  simp [results, hr, Array.getD_eq_getD_getElem?, hv, asAddr, hload]
 ·simp only [RP]
  refine ⟨vs.toArray, rfl, by simp [v1], (RC.ofOne (B := B0) hone fun j x hx => ?_).1 (Nat.zero_le _) (by omega)⟩
  obtain ⟨u, h1, h2, B1, h3, h4, h5⟩ := key j x hx
  refine ⟨u, by simpa using h1, ?_⟩
  rw [Nat.zero_add]
  by_cases he : j = j0
  ·subst he
   rw [k1] at h1; cases h1
   rw [List.getElem?_eq_getElem hj0] at hx; cases hx
   exact .inl ⟨rfl, RD.mono (fun _ _ => rfl) z 1 _ _ B0 (fun _ _ => rfl) b1⟩
  ·rw [if_neg he] at h3
   simp only [RP] at h3
   obtain rfl := RD.zeroB h3
   exact .inr ⟨he, RD.mono (fun _ _ => rfl) z 0 _ _ [] (by simp) h3⟩
def resOne (T : Tab) (st : St) : ResultVar → Option (Nat × PV)
 | .tmp t => match look st.env t with
  | some it => pairIt it
  | none => none
 | .cell t ty => match look st.env t, tab T ty with
  | some (.v 0 (.ptr i off)), some ti => match st.objs[i]? with
   | some cs => if ti.k.isAgg then (match aggOf ti.size (cs.drop off) with
     | some ds => some (0, .agg ds)
     | none => none)
    else (match cs[off]? with
     | some (0, p) => some (0, p)
     | _ => none)
   | none => none
  | _, _ => none
def resSlot : ResultVar → Nat
 | .tmp t => t
 | .cell t _ => t
def resRun (ts : Array Value) : ResultVar → Sem Value
 | .tmp t => pure (ts.getD t undef)
 | .cell a t => do loadVar t (← asAddr (ts.getD a undef))
theorem resOne_sound (hT : TOK P T) {w : World} {ow : Nat → Lab} {φ : Nat → Nat} {ts : Array Value} {st : St} (h : Rel N w ow φ ts st) {r : ResultVar} {m : Nat} {p : PV} (hr : resOne T st r = some (m, p)) :
  ∃ v, (resRun ts r).run P w = .ok v w ∧ Own w ow φ st.objs.length m p v (.sl (resSlot r)) := by
 cases r with
 | tmp t =>
  simp only [resOne] at hr
  split at hr
  ·rename_i it hl
   obtain ⟨v, hv, hrv⟩ := h.env _ _ (look_mem hl)
   exact ⟨v, by simp [resRun, Array.getD_eq_getD_getElem?, hv], pairIt_own hrv hr⟩
  ·cases hr
 | cell t ty =>
  simp only [resOne] at hr
  split at hr
  ·rename_i i off ti hl ht
   have hti := hT _ _ ht
   obtain ⟨v, hv, B, hrv, _, _⟩ := h.env _ _ (look_mem hl)
   simp only [RP] at hrv
   obtain ⟨rfl, hon, _⟩ := hrv
   split at hr
   ·rename_i cs hcs
    obtain ⟨c, e, hh, hsz, hlab, hc⟩ := h.objs i cs hcs
    have hcell : ∀ j v, c[j]? = some v → w.cell? ⟨φ i, j, none⟩ = some v := fun j v hj => by simp [World.cell?, hh, hj]
    have hget : (resRun ts (.cell t ty)).run P w = (loadVar ty ⟨φ i, off, none⟩).run P w := by
     simp [resRun, Array.getD_eq_getD_getElem?, hv, asAddr]
    rw [hget]
    split at hr
    ·rename_i hagg
     split at hr
     ·rename_i ds hds
      cases hr
      obtain ⟨hl2, hget2⟩ := aggOf_get hds
      have hvs : ∃ vs : List Value, vs.length = ds.length ∧ ∀ (j : Nat) (x : D), ds[j]? = some x → ∃ u, vs[j]? = some u ∧ c[off + j]? = some u ∧ RD w (Fz ow) 0 x u [] := by
       refine ⟨(List.range ds.length).map fun j => (c[off + j]?).getD undef, by simp, fun j x hj => ?_⟩
       have h1 := hget2 j x hj
       rw [List.getElem?_drop] at h1
       obtain ⟨u, u1, u2, u3, B', u4, _, _⟩ := hc (off + j) 0 _ h1
       simp only [RP] at u4
       obtain rfl := RD.zeroB u4
       have hj' := lt_of_get hj
       exact ⟨u, by simp [hj', u1], u1, u4⟩
      obtain ⟨vs, v1, v2⟩ := hvs
      have key : ∀ (j : Nat) (u : Value), vs[j]? = some u → ∃ x, ds[j]? = some x ∧ c[off + j]? = some u ∧ RD w (Fz ow) 0 x u [] := by
       intro j u hu
       have hj : j < ds.length := by have := lt_of_get hu; omega
       obtain ⟨u', h1, h2, h3⟩ := v2 j ds[j] (List.getElem?_eq_getElem hj)
       rw [hu] at h1; cases h1
       exact ⟨_, List.getElem?_eq_getElem hj, h2, h3⟩
      refine ⟨.agg vs.toArray, run_loadVar_agg hti hagg (by omega) fun j u hu => ?_, own0 ?_⟩
      ·obtain ⟨x, _, h2, _⟩ := key j u hu
       rw [addr_add]; exact hcell _ _ h2
      ·simp only [RP]
       refine ⟨vs.toArray, rfl, by simp [v1], RC.of0 fun o x hx => ?_⟩
       obtain ⟨u, h1, _, h3⟩ := v2 o x hx
       exact ⟨u, by simpa using h1, h3⟩
     ·cases hr
    ·rename_i hagg
     split at hr
     ·rename_i p' hp
      cases hr
      obtain ⟨u, u1, u2, u3, B', u4, _, _⟩ := hc off 0 _ hp
      obtain rfl := RP.zeroB u4
      exact ⟨u, run_loadVar_cell hti (by simpa using hagg) (hcell _ _ u1), own0 u4⟩
     ·cases hr
   ·cases hr
  ·cases hr
theorem andThen_nest {α β γ : Type} {x : Result α} {f : α → World → Result β} {g : β → World → Result γ} {v : β} {w : World} (h : x.andThen f = .ok v w) : x.andThen (fun a w' => (f a w').andThen g) = g v w := by
 cases x with
 | ok a w' => simp only [Result.andThen] at h ⊢; rw [h]
 | halt e w' => simp [Result.andThen] at h
theorem ResOK.one (hT : TOK P T) {fn : Func} {st : St} {r : ResultVar} {m : Nat} {p : PV} (hr : fn.results = #[r]) (h1 : resOne T st r = some (m, p)) : ResOK P N fn st [resSlot r] (.v m p) := by
 intro w ow φ ts h
 obtain ⟨v, hv, ho⟩ := resOne_sound hT h h1
 refine ⟨v, ?_, Own.res (by simp) ho⟩
 cases r with
 | tmp t => simpa [results, hr, resRun] using hv
 | cell a t =>
  simp only [resRun] at hv
  simp [results, hr]
  simpa using hv
theorem ResOK.two (hT : TOK P T) {fn : Func} {st : St} {r1 r2 : ResultVar} {a b : Nat × PV} (hr : fn.results = #[r1, r2]) (hne : (Nat.beq (resSlot r1) (resSlot r2)) = false) (h1 : resOne T st r1 = some a) (h2 : resOne T st r2 = some b) : ResOK P N fn st [resSlot r1, resSlot r2] (.tup [a, b]) := by
 intro w ow φ ts h
 obtain ⟨m1, q1⟩ := a
 obtain ⟨m2, q2⟩ := b
 obtain ⟨v1, hv1, B1, x1, x2, x3⟩ := resOne_sound hT h h1
 obtain ⟨v2, hv2, B2, y1, y2, y3⟩ := resOne_sound hT h h2
 have hne : resSlot r1 ≠ resSlot r2 := fun e => by rw [e, Nat.beq_refl] at hne; cases hne
 have mono : ∀ {m : Nat} {p : PV} {v : Value} {B : List Nat}, RP w (Fz ow) φ st.objs.length m p v B → RP w (Fz (fun b => resLab [resSlot r1, resSlot r2] (ow b))) φ st.objs.length m p v B := fun h => RP.mono (fun _ _ => rfl) resLab_frz (fun _ _ => rfl) (Nat.le_refl _) _ _ _ _ (fun _ _ => rfl) h
 refine ⟨.tuple #[v1, v2], ?_, #[v1, v2], B1 ++ B2, rfl, ⟨v1, [v2], B1, B2, rfl, rfl, mono x1, v2, [], B2, [], rfl, by simp, mono y1, rfl, rfl⟩, ?_, ?_⟩
 ·cases r1 <;> cases r2 <;> simp only [resRun] at hv1 hv2 <;> simp at hv1 hv2 <;> simp [results, hr, hv1, hv2]
  ·exact andThen_nest (g := fun a w' => .ok (Value.tuple #[v1, a]) w') hv2
  ·exact andThen_nest (g := fun a w' => .ok (Value.tuple #[a, v2]) w') hv1
  ·rw [andThen_nest (g := fun a w' => Result.andThen ((asAddr _).run P w') fun b w'' => ((loadVar _ b).run P w'').andThen fun c w3 => .ok (Value.tuple #[a, c]) w3) hv1]
   exact andThen_nest (g := fun a w' => .ok (Value.tuple #[v1, a]) w') hv2
 ·refine List.nodup_append.2 ⟨x2, y2, fun b hb c hc e => ?_⟩
  subst e
  have := (x3 b hb).symm.trans (y3 b hc)
  exact hne (Lab.sl.inj this)
 ·intro b hb
  rcases List.mem_append.1 hb with hb | hb
  ·simp [x3 b hb, resLab]
  ·simp [y3 b hb, resLab]
end

end Go.Ev
