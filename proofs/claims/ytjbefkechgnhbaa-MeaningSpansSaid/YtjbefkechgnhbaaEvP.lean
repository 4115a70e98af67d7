/- The engine's part EvP: what a function's code does, told of values; no program in sight. Conditions: none. -/
import Derived.Test.YtjbefkechgnhbaaEvA
set_option linter.unusedVariables false
set_option linter.unusedSimpArgs false
namespace Go.Ev

theorem RX.vals {w : World} {Z : Nat → Prop} {m s : Nat} {blk : Nat} : ∀ {xs : List (List D)} {off : Nat} {B : List Nat}, RX w Z m s xs blk off B →
  ∃ us : List Value, us.length = xs.length * s ∧ (∀ j v, us[j]? = some v → mem w blk (off + j) = some v) ∧ (∀ u ∈ us, u.oneCell' = true) ∧
   ∀ blk' off' (w' : World) (Z' : Nat → Prop), (∀ b, Z b → w'.heap[b]? = w.heap[b]?) → (∀ b, Z b → Z' b) → (∀ b ∈ B, w'.heap[b]? = w.heap[b]?) → (∀ j v, us[j]? = some v → mem w' blk' (off' + j) = some v) → RX w' Z' m s xs blk' off' B
 | [], off, B, h => ⟨[], by simp, by simp, by simp, fun _ _ _ _ _ _ _ _ => by simpa [RX] using h⟩
 | x :: xs, off, B, h => by
  simp only [RX] at h
  obtain ⟨B1, B2, hl, rfl, h1, h2⟩ := h
  obtain ⟨vs, v1, v2, v3⟩ := RC.vals h1
  obtain ⟨us, u1, u2, u3, u4⟩ := RX.vals h2
  refine ⟨vs ++ us, by rw [List.length_append, u1, v1, hl, List.length_cons, Nat.add_mul]; omega, fun j v hj => ?_, fun u hu => ?_, fun blk' off' w' Z' hZ hz hB hh => ?_⟩
  ·rw [List.getElem?_append] at hj
   split at hj
   ·exact v2 j v hj
   ·have := u2 _ v hj
    rw [← this]; congr 1; omega
  ·rcases List.mem_append.1 hu with hu | hu
   ·obtain ⟨j, hj⟩ := List.getElem?_of_mem hu
    have hg := v2 j u hj
    obtain ⟨c, hc⟩ : ∃ c, x[j]? = some c := by
     have : j < vs.length := by
      rcases Nat.lt_or_ge j vs.length with h | h
      ·exact h
      ·rw [List.getElem?_eq_none h] at hj; simp at hj
     exact ⟨x[j]'(by omega), by simp [← v1, this]⟩
    obtain ⟨v', _, _, _, hu', _, hrd⟩ := RC.get _ _ _ _ _ _ h1 hc
    rw [hg] at hu'
    cases hu'
    exact RD.noAgg hrd
   ·exact u3 u hu
  ·simp only [RX]
   refine ⟨B1, B2, hl, rfl, ?_, ?_⟩
   ·have := v3 (mem w' blk') off' (fun j v hj => hh j v (by rw [List.getElem?_append_left ((Nat.lt_or_ge j vs.length).elim id fun h => by rw [List.getElem?_eq_none h] at hj; simp at hj)]; exact hj))
    exact RC.mono hZ hz _ _ _ _ _ (fun b hb => hB b (by simp [hb])) this
   ·refine u4 blk' (off' + s) w' Z' hZ hz (fun b hb => hB b (by simp [hb])) fun j v hj => ?_
    have := hh (vs.length + j) v (by rw [List.getElem?_append_right (by omega)]; simpa using hj)
    rw [← this]; congr 1; omega
theorem RX.append {w : World} {Z : Nat → Prop} {m s : Nat} {blk : Nat} : ∀ {xs : List (List D)} {ys : List (List D)} {off : Nat} {B1 B2 : List Nat}, RX w Z m s xs blk off B1 → RX w Z m s ys blk (off + xs.length * s) B2 → RX w Z m s (xs ++ ys) blk off (B1 ++ B2)
 | [], ys, off, B1, B2, h1, h2 => by
  simp only [RX] at h1; subst h1
  simpa using h2
 | x :: xs, ys, off, B1, B2, h1, h2 => by
  simp only [RX] at h1
  obtain ⟨C1, C2, hl, rfl, g1, g2⟩ := h1
  simp only [List.cons_append, RX]
  refine ⟨C1, C2 ++ B2, hl, by simp, g1, RX.append g2 ?_⟩
  have : off + s + xs.length * s = off + (x :: xs).length * s := by rw [List.length_cons, Nat.add_mul]; omega
  rw [this]; exact h2
theorem mem_alloc_new (w : World) (c : Array Value) (e : TypeId) (fz : Nat × Nat) (j : Nat) : mem (w.alloc (.cells c e fz)) w.heap.size j = c[j]? := by
 have := heap_alloc_new' w (.cells c e fz)
 simp only [mem, World.cell?]
 rw [this]
 rfl
def srcOf (env : Env) (objs : Objs) (x : Operand) (orc : List Orc) : Option ((Nat × List (List D)) × List Prop × List Orc) :=
 match opd env x with
 | some (.v 0 (.d (.sl s xs))) => some ((s, xs), [], orc)
 | some (.v 1 (.d (.sl s xs))) => some ((s, xs), [], orc)
 | some (.ap s xs) => some ((s, xs), [], orc)
 | some (.b p) => match contD env objs p orc with
  | some ((0, s, xs), obs, orc') => some ((s, xs), obs, orc')
  | _ => none
 | _ => none
theorem srcOf_sound {N : Nat} {w : World} {ow : Nat → Lab} {φ : Nat → Nat} {ts : Array Value} {st : St} (h : Rel N w ow φ ts st) {x : Operand} {orc orc' : List Orc} {s : Nat} {xs : List (List D)} {obs : List Prop}
  (he : srcOf st.env st.objs x orc = some ((s, xs), obs, orc')) (ho : AllP obs) : ∃ l, Rdb w ow l 0 s xs (evalT ts x) := by
 unfold srcOf at he
 split at he
 ·rename_i s' xs' hx
  cases he
  obtain ⟨B, hr, _, _⟩ := opd_rel h hx
  simp only [RP] at hr
  obtain rfl := RD.zeroB hr
  exact ⟨.free, Rdb.of0 hr⟩
 ·rename_i s' xs' hx
  cases he
  obtain ⟨B, hr, _, hb⟩ := opd_rel h hx
  simp only [RP] at hr
  exact ⟨_, Rdb.of1 hr hb⟩
 ·rename_i s' xs' hx
  cases he
  rcases opd_rel h hx with ⟨B, hr, _, hb⟩ | ⟨a, hv, hr⟩
  ·simp only [RP] at hr
   exact ⟨_, Rdb.of1 hr hb⟩
  ·rw [hv]; exact ⟨.free, Rdb.of0 hr⟩
 ·rename_i p hx
  split at he
  ·rename_i s' xs' obs' orc0 hc
   cases he
   obtain ⟨v, hv, hr⟩ := contD_sound h p _ hc ho
   rw [Pl.Hd.unique (opd_rel h hx) hv]
   exact ⟨_, hr⟩
  ·cases he
 ·cases he
theorem Rdb.vals {w : World} {ow : Nat → Lab} {l : Lab} {s : Nat} {xs : List (List D)} {v : Value} (h : Rdb w ow l 0 s xs v) :
  1 ≤ s ∧ ∃ a cap, v = .slice a xs.length cap ∧ xs.length ≤ cap ∧ ∃ us : List Value, us.length = xs.length * s ∧ (∀ u ∈ us, u.oneCell' = true) ∧
   ((a = none ∧ xs = [] ∧ cap = 0) ∨ ∃ p, a = some p ∧ (cap ≠ 0 → p.spot = none) ∧ ∀ j u, us[j]? = some u → w.cell? (p.add j) = some u) ∧
   ∀ blk' off' (w' : World) (Z' : Nat → Prop), (∀ b, Fz ow b → w'.heap[b]? = w.heap[b]?) → (∀ b, Fz ow b → Z' b) → (∀ j v, us[j]? = some v → mem w' blk' (off' + j) = some v) → RX w' Z' 0 s xs blk' off' [] := by
 obtain ⟨hs, a, cap, B, hv, hc, hsp, hn, hx⟩ := h
 refine ⟨hs, a, cap, hv, hc, ?_⟩
 by_cases hne : xs = []
 ·subst hne
  refine ⟨[], by simp, by simp, ?_, fun _ _ _ _ _ _ _ => by simp [RX]⟩
  cases a with
  | none => exact .inl ⟨rfl, rfl, hn rfl⟩
  | some p => exact .inr ⟨p, rfl, hsp p rfl, by simp⟩
 ·obtain ⟨p, rfl, _, hr, _⟩ := hx hne
  have hB : B = [] := by
   clear hv hc hn hx
   have : ∀ (xs : List (List D)) (off : Nat) (B : List Nat), RX w (Fz ow) 0 s xs p.block off B → B = [] := by
    intro xs
    induction xs with
    | nil => intro off B h; simpa [RX] using h
    | cons y ys ih =>
     intro off B h
     simp only [RX] at h
     obtain ⟨B1, B2, _, rfl, h1, h2⟩ := h
     rw [RC.zeroB _ _ _ h1, ih _ _ h2]; rfl
   exact this xs _ B hr
  subst hB
  obtain ⟨us, u1, u2, u3, u4⟩ := RX.vals hr
  refine ⟨us, u1, u3, .inr ⟨p, rfl, hsp p rfl, fun j u hj => ?_⟩, fun blk' off' w' Z' hZ hz hh => u4 blk' off' w' Z' hZ hz (by simp) hh⟩
  have hsp' := hsp p rfl (by have := List.length_pos_iff.2 hne; omega)
  obtain ⟨b, o, sp⟩ := p
  simp only at hsp'; subst hsp'
  rw [addr_add]; exact u2 j u hj
theorem Rel.made {N : Nat} {w w0 : World} {ow : Nat → Lab} {φ : Nat → Nat} {ts : Array Value} {st : St} {d : Nat} {o : Obj} {v : Value} {it : It} {l : Lab}
  (h : Rel N w ow φ ts st) (hw : w0.heap = w.heap ∧ w0.os = w.os ∧ w0.tape = w.tape ∧ w0.output = w.output) (hd : d < N) (hb : it.base ≠ some d)
  (hit : RV (w0.alloc o) (owNew ow w.heap.size l) φ st.objs.length (putO ts (some d) v) (.sl d) it v) :
  Rel N (w0.alloc o) (owNew ow w.heap.size l) φ (putO ts (some d) v) (setE st d it) ∧ Mods w ow (w0.alloc o) (owNew ow w.heap.size l) := by
 have hk : Keep [] w ow (w0.alloc o) (owNew ow w.heap.size l) := by
  have hsz : w0.heap.size = w.heap.size := by rw [hw.1]
  have := Keep.alloc (w := w0) (ow := ow) (fun b hb => by rw [hsz]; exact h.bnd b hb) o l
  rw [hsz] at this
  refine ⟨this.os.trans hw.2.1, this.tape.trans hw.2.2.1, this.output.trans hw.2.2.2, by have := this.size; omega, fun b h1 h2 => ?_, fun b h1 h2 => ?_⟩
  ·have := this.free b (by omega) h2; rwa [hw.1] at this
  ·have := this.keep b h1 h2; rwa [hw.1] at this
 refine ⟨Rel.step (S := []) (new := [(d, it)]) h hk (by simp) (by simp) (by simp) (fun _ _ => rfl) (Nat.le_refl _) ?_ ?_ ?_, hk.mods (by simp)⟩
 ·intro e he
  obtain rfl := List.mem_singleton.1 he
  exact ⟨v, putO_same (by rw [h.tsz]; exact hd), hit⟩
 ·intro i cs hc
  exact .inl ⟨cs, hc, rfl, by simp, fun j m p _ => .inr (by simp)⟩
 ·have hsz : w0.heap.size = w.heap.size := by rw [hw.1]
  have := bnd_alloc (w := w0) (ow := ow) (fun b hb => by rw [hsz]; exact h.bnd b hb) o l
  rw [hsz] at this
  exact this


def cellsOf : Option It → Option (List D)
 | some (.v 0 (.d x)) => some [x]
 | some (.v 0 (.agg cs)) => some cs
 | some (.kb b) => some [.bool b]
 | _ => none
theorem cellsOf_vals {N : Nat} {w : World} {ow : Nat → Lab} {φ : Nat → Nat} {ts : Array Value} {st : St} (h : Rel N w ow φ ts st) {x : Operand} {cs : List D} (hx : cellsOf (opd st.env x) = some cs) :
  (evalT ts x).cells.toList.length = cs.length ∧ (∀ u ∈ (evalT ts x).cells.toList, u.oneCell' = true) ∧
   ∀ (g : Nat → Option Value) o, (∀ j v, (evalT ts x).cells.toList[j]? = some v → g (o + j) = some v) → RC w (Fz ow) 0 cs g o [] := by
 unfold cellsOf at hx
 split at hx
 ·rename_i y ho
  cases hx
  obtain ⟨B, hr, _, _⟩ := opd_rel h ho
  simp only [RP] at hr
  obtain rfl := RD.zeroB hr
  have h1 := RD.noAgg hr
  have hc : (evalT ts x).cells = #[evalT ts x] := by
   generalize evalT ts x = v at h1 ⊢
   cases v <;> simp [Value.oneCell'] at h1 <;> rfl
  rw [hc]
  refine ⟨rfl, by simpa using h1, fun g o hg => ?_⟩
  simp only [RC]
  exact ⟨_, [], [], by simpa using hg 0 _ rfl, rfl, hr, rfl⟩
 ·rename_i cs' ho
  cases hx
  obtain ⟨B, hr, _, _⟩ := opd_rel h ho
  simp only [RP] at hr
  obtain ⟨vs, hv, hl, hr⟩ := hr
  obtain rfl := RC.zeroB _ _ _ hr
  obtain ⟨us, u1, u2, u3⟩ := RC.vals hr
  have hus : us = vs.toList := by
   apply List.ext_getElem?
   intro j
   by_cases hj : j < us.length
   ·have := u2 j (us[j]'hj) (by simp [hj])
    simp only [Nat.zero_add] at this
    have e : vs.toList[j]? = vs[j]? := by simp
    rw [e, this]; simp [hj]
   ·rw [List.getElem?_eq_none (by omega), List.getElem?_eq_none (by simp; omega)]
  rw [hv]
  simp only [Value.cells]
  rw [← hus]
  refine ⟨u1, fun u hu => ?_, fun g o hg => u3 g o hg⟩
  obtain ⟨j, hj⟩ := List.getElem?_of_mem hu
  have hj' : j < us.length := by
   rcases Nat.lt_or_ge j us.length with h | h
   ·exact h
   ·rw [List.getElem?_eq_none h] at hj; simp at hj
  obtain ⟨v', _, _, _, hu', _, hrd⟩ := RC.get _ _ _ _ _ _ hr (show cs[j]? = some (cs[j]'(by omega)) by simp [← u1, hj'])
  have := u2 j u hj
  rw [this] at hu'; cases hu'
  exact RD.noAgg hrd
 ·rename_i b ho
  cases hx
  have hv : evalT ts x = .bool b := opd_rel h ho
  rw [hv]
  refine ⟨rfl, by simp [Value.cells, Value.oneCell'], fun g o hg => ?_⟩
  simp only [RC, RD]
  exact ⟨.bool b, [], [], by simpa using hg 0 _ rfl, rfl, ⟨rfl, rfl⟩, rfl⟩
 ·cases hx
theorem foldl_seg : ∀ (us : List Value) (j : Nat) (off : Nat) (pre mid rest : List Value), mid.length = us.length → off + j = pre.length →
  (us.zipIdx j).foldl (fun (cs : Array Value) (c : Value × Nat) => cs.setIfInBounds (off + c.2) c.1) (pre ++ mid ++ rest).toArray = (pre ++ us ++ rest).toArray
 | [], j, off, pre, mid, rest, h, ho => by
  simp at h; subst h; simp
 | u :: us, j, off, pre, mid, rest, h, ho => by
  cases mid with
  | nil => simp at h
  | cons m mid =>
   simp only [List.zipIdx_cons, List.foldl_cons]
   have e : (pre ++ m :: mid ++ rest).toArray.setIfInBounds (off + j) u = ((pre ++ [u]) ++ mid ++ rest).toArray := by
    rw [ho, List.setIfInBounds_toArray]
    congr 1
    simp
   rw [e, foldl_seg us (j + 1) off (pre ++ [u]) mid rest (by simpa using h) (by simp; omega)]
   simp
theorem fill_all (size : Nat) : ∀ (vs : List Value) (k : Nat) (pre rest : List Value), pre.length = k * size → rest.length = vs.length * size → (∀ v ∈ vs, v.cells.size = size) →
  Instr.fill (fun i => some (i * size, size)) (pre ++ rest).toArray ((vs.zipIdx k).map fun p => (p.2, p.1)) = some (pre ++ vs.flatMap (·.cells.toList)).toArray
 | [], k, pre, rest, hp, hr, hv => by
  simp at hr; subst hr
  simp [Instr.fill]
 | v :: vs, k, pre, rest, hp, hr, hv => by
  have hs : v.cells.size = size := hv v (by simp)
  simp only [List.zipIdx_cons, List.map_cons, Instr.fill]
  have hl : (pre ++ rest).toArray.size = pre.length + rest.length := by simp
  have hrl : rest.length = size + vs.length * size := by rw [hr, List.length_cons, Nat.add_mul]; omega
  rw [if_neg (by simp only [Bool.or_eq_true, decide_eq_true_eq, ne_eq, hl, hs, hp, hrl, not_true_eq_false, Nat.not_lt, gt_iff_lt, not_or, true_and, decide_false, Bool.not_eq_true]; omega)]
  have hsplit : pre ++ rest = pre ++ rest.take size ++ rest.drop size := by simp
  have hf : v.cells.zipIdx.foldl (fun (cs : Array Value) (c : Value × Nat) => cs.setIfInBounds (k * size + c.2) c.1) (pre ++ rest).toArray = (pre ++ v.cells.toList ++ rest.drop size).toArray := by
   rw [hsplit, ← Array.foldl_toList, Array.toList_zipIdx]
   exact foldl_seg v.cells.toList 0 (k * size) pre (rest.take size) (rest.drop size) (by simp [hs, hrl]) (by omega)
  have hf' : (v.cells.zipIdx.foldl (fun (cs : Array Value) (x : Value × Nat) => match x with | (c, j) => cs.setIfInBounds (k * size + j) c) (pre ++ rest).toArray) = (pre ++ v.cells.toList ++ rest.drop size).toArray := hf
  rw [hf']
  have := fill_all size vs (k + 1) (pre ++ v.cells.toList) (rest.drop size) (by simp [hp, hs, Nat.add_mul]) (by simp [hrl]) (fun u hu => hv u (by simp [hu]))
  rw [this]
  simp
def okParts (s : Nat) (env : Env) : Nat → List (Nat × Operand) → Option (List (List D))
 | _, [] => some []
 | k, (i, x) :: r => if Nat.beq i k then match cellsOf (opd env x) with
   | some cs => if Nat.beq cs.length s then match okParts s env (k + 1) r with
     | some l => some (cs :: l)
     | none => none
    else none
   | none => none
  else none
theorem okParts_spec {s : Nat} {env : Env} : ∀ {k : Nat} {ps : List (Nat × Operand)} {xs : List (List D)}, okParts s env k ps = some xs →
  xs.length = ps.length ∧ (∀ j p, ps[j]? = some p → p.1 = k + j ∧ ∃ cs, xs[j]? = some cs ∧ cellsOf (opd env p.2) = some cs ∧ cs.length = s)
 | k, [], xs, h => by simp [okParts] at h; subst h; simp
 | k, (i, x) :: r, xs, h => by
  simp only [okParts] at h
  split at h
  ·rename_i hi
   have hi : i = k := Nat.eq_of_beq_eq_true hi
   split at h
   ·rename_i cs hc
    split at h
    ·rename_i hl
     have hl : cs.length = s := Nat.eq_of_beq_eq_true hl
     split at h
     ·rename_i l hr
      cases h
      obtain ⟨h1, h2⟩ := okParts_spec hr
      refine ⟨by simp [h1], fun j p hj => ?_⟩
      cases j with
      | zero => simp at hj; subst hj; exact ⟨by simp [hi], cs, by simp, hc, hl⟩
      | succ j =>
       obtain ⟨g1, cs', g2, g3⟩ := h2 j p (by simpa using hj)
       exact ⟨by rw [g1]; omega, cs', by simpa using g2, g3⟩
     ·cases h
    ·cases h
   ·cases h
  ·cases h
theorem run_buildSlice {P : Program} {w : World} {t e n : Nat} {it ie : TI} {sz : Nat} (ht : tiOf P t = some it) (hk : it.k = .slice e) (he : tiOf P e = some ie) (hz : ie.zs = sz + 1) (hs : 1 ≤ ie.size)
  {ps : Array (Nat × Value)} {vs : List Value} (hp : ps.toList = (vs.zipIdx 0).map fun p => (p.2, p.1)) (hn : vs.length = n) (hv : ∀ v ∈ vs, v.cells.size = ie.size) (hb : n * ie.size ≤ 2 ^ 24) :
  (Instr.buildSlice t n ps).run P w = .ok (.slice (some ⟨w.heap.size, 0, none⟩) n n) (w.alloc (.cells (vs.flatMap (·.cells.toList)).toArray e)) := by
 obtain ⟨inf, d, i1, i2, i3, i4, i5⟩ := tiOf_spec ht
 obtain ⟨inf', d', j1, j2, j3, j4, j5⟩ := tiOf_spec he
 obtain ⟨inf'', z, k1, k2, k3⟩ := tiOf_zero he hz
 rw [j1] at k1; cases k1
 rw [hk] at i5
 obtain rfl := tk_slice i5
 have hb' : ¬ (16777216 < n * ie.size) := by omega
 have key : ∀ (arr : Array Value), arr.size = n * ie.size → Instr.fill (fun i => some (i * ie.size, ie.size)) arr ps.toList = some (vs.flatMap (·.cells.toList)).toArray := by
  intro arr ha
  rw [hp]
  have := fill_all ie.size vs 0 [] arr.toList (by simp) (by simp [hn, ha]) hv
  rw [List.nil_append, List.nil_append, Array.toArray_toList] at this
  exact this
 by_cases h0 : n * ie.size = 0
 ·simp [Instr.buildSlice, run_und i2, run_size j1, j3, h0]
  rw [key _ (by simp [h0])]
  simp [newRow]
 ·simp [Instr.buildSlice, run_und i2, run_size j1, j3, h0, hb', zeroValue, typeInfo, j1, k2]
  rw [key _ (by simp)]
  simp [newRow]


theorem parts_RX {N : Nat} {w w' : World} {ow : Nat → Lab} {φ : Nat → Nat} {ts : Array Value} {st : St} (h : Rel N w ow φ ts st) {Z' : Nat → Prop} (hZ : ∀ b, Fz ow b → w'.heap[b]? = w.heap[b]?) (hz : ∀ b, Fz ow b → Z' b) {s blk : Nat} :
  ∀ {ps : List (Nat × Operand)} {k : Nat} {xs : List (List D)} {off : Nat}, okParts s st.env k ps = some xs →
   (∀ j v, (ps.flatMap fun p => (evalT ts p.2).cells.toList)[j]? = some v → mem w' blk (off + j) = some v) → RX w' Z' 0 s xs blk off []
 | [], k, xs, off, hp, hm => by simp [okParts] at hp; subst hp; simp [RX]
 | (i, x) :: r, k, xs, off, hp, hm => by
  simp only [okParts] at hp
  split at hp
  ·split at hp
   ·rename_i cs hc
    split at hp
    ·rename_i hl
     have hl : cs.length = s := Nat.eq_of_beq_eq_true hl
     split at hp
     ·rename_i l hr
      cases hp
      obtain ⟨c1, c2, c3⟩ := cellsOf_vals h hc
      simp only [List.flatMap_cons] at hm
      simp only [RX]
      refine ⟨[], [], hl, rfl, RC.mono hZ hz 0 cs _ off [] (by simp) (c3 _ off fun j v hj => hm j v ?_), parts_RX h hZ hz hr fun j v hj => ?_⟩
      ·rw [List.getElem?_append_left (by
        rcases Nat.lt_or_ge j (evalT ts x).cells.toList.length with h | h
        ·exact h
        ·rw [List.getElem?_eq_none h] at hj; simp at hj)]
       exact hj
      ·have := hm (s + j) v (by rw [List.getElem?_append_right (by omega)]; rw [c1, hl]; simpa using hj)
       rw [← this]; congr 1; omega
     ·cases hp
    ·cases hp
   ·cases hp
  ·cases hp
theorem okParts_idx {s : Nat} {env : Env} {ts : Array Value} : ∀ {k : Nat} {ps : List (Nat × Operand)} {xs : List (List D)}, okParts s env k ps = some xs →
  ps.map (fun p => (p.1, evalT ts p.2)) = ((ps.map fun p => evalT ts p.2).zipIdx k).map fun p => (p.2, p.1)
 | k, [], xs, h => by simp
 | k, (i, x) :: r, xs, h => by
  simp only [okParts] at h
  split at h
  ·rename_i hi
   have hi : i = k := Nat.eq_of_beq_eq_true hi
   split at h
   ·split at h
    ·split at h
     ·rename_i l hr
      simp only [List.map_cons, List.zipIdx_cons, hi, okParts_idx hr]
     ·cases h
    ·cases h
   ·cases h
  ·cases h
section
variable {P : Program} {T : Tab} {N : Nat} {st : St}
theorem opj_buildSlice (hT : TOK P T) {o : Oper} {d t len e s m : Nat} {parts : Array (Nat × Operand)} {xs : List (List D)} {it ie : TI} (hop : o.op = .buildSlice t len parts) (hd : o.dst = some d) (hN : d < N)
  (ht : tab T t = some it) (hk : it.k = .slice e) (he : tab T e = some ie) (hz : ie.zs = s + 1) (hs : ie.size = s) (h1 : 1 ≤ s) (hlen : parts.size = len) (hb : len * s ≤ 2 ^ 24) (hm : m = 0 ∨ m = 1)
  (hx : okParts s st.env 0 parts.toList = some xs) : OpJ P N o st (setE st d (.v m (.d (.sl s xs)))) := by
 intro w ow φ ts hr
 subst hs
 obtain ⟨x1, x2⟩ := okParts_spec hx
 have hvs : ∀ v ∈ (parts.toList.map fun p => evalT ts p.2), v.cells.size = ie.size := by
  intro v hv
  obtain ⟨p, hp, rfl⟩ := List.mem_map.1 hv
  obtain ⟨j, hj⟩ := List.getElem?_of_mem hp
  obtain ⟨_, cs, _, hc, hl⟩ := x2 j p hj
  have := (cellsOf_vals hr hc).1
  rw [← hl, ← this]; simp
 have hrun := run_buildSlice (P := P) (w := w) (n := len) (ps := parts.map fun (i, x) => (i, evalT ts x)) (vs := parts.toList.map fun p => evalT ts p.2) (hT _ _ ht) hk (hT _ _ he) hz h1
  (by rw [Array.toList_map]; exact okParts_idx hx) (by simp [← hlen]) hvs hb
 have hex : (execOp (evalT ts) o).run P w = .ok (.value (.slice (some ⟨w.heap.size, 0, none⟩) len len)) (w.alloc (.cells ((parts.toList.map fun p => evalT ts p.2).flatMap (·.cells.toList)).toArray e)) := by
  simp [execOp, hop, hrun]
 have hxl : xs.length = len := by rw [x1]; simp [← hlen]
 have hus : ((parts.toList.map fun p => evalT ts p.2).flatMap (·.cells.toList)).length = len * ie.size := by
  have : ∀ (l : List Value), (∀ v ∈ l, v.cells.size = ie.size) → (l.flatMap (·.cells.toList)).length = l.length * ie.size := by
   intro l
   induction l with
   | nil => simp
   | cons v l ih =>
    intro hv
    simp only [List.flatMap_cons, List.length_append, List.length_cons, Array.length_toList]
    rw [ih (fun u hu => hv u (by simp [hu])), hv v (by simp), Nat.add_mul]; omega
  rw [this _ hvs]; simp [← hlen]
 generalize hU : ((parts.toList.map fun p => evalT ts p.2).flatMap (·.cells.toList)) = us at hex hus
 -- the elements, where they now lie
 have rx : ∀ l, RX (w.alloc (.cells us.toArray e)) (Fz (owNew ow w.heap.size l)) 0 ie.size xs w.heap.size 0 [] := by
  intro l
  refine parts_RX hr (fun b hb => heap_alloc_old w _ (hr.bnd b (by rw [show ow b = .frz from hb]; simp))) (fun b hb => ?_) hx fun j v hj => ?_
  ·have := hr.bnd b (by rw [show ow b = .frz from hb]; simp)
   simp only [Fz, owNew]; rw [if_neg (by omega)]; exact hb
  ·rw [Nat.zero_add, mem_alloc_new, List.getElem?_toArray, ← hU, List.flatMap_map]
   exact hj
 rcases hm with rfl | rfl
 ·obtain ⟨r1, r2⟩ := Rel.made (o := .cells us.toArray e) (it := .v 0 (.d (.sl ie.size xs))) (v := .slice (some ⟨w.heap.size, 0, none⟩) len len) (l := .frz) hr ⟨rfl, rfl, rfl, rfl⟩ hN (by simp [It.base]) (own0 (by
   simp only [RP, RD]
   refine ⟨trivial, h1, some ⟨w.heap.size, 0, none⟩, len, by rw [hxl], by omega, by rintro p hp _; cases hp; rfl, by simp, fun _ => ⟨_, rfl, ?_, rx .frz⟩⟩
   simp [Fz, owNew]))
  exact ⟨_, _, φ, _, by rw [hd]; exact r1, r2, fun _ _ => rfl, OpTo.value (by intro c hc; rw [hop] at hc; cases hc) hex⟩
 ·obtain ⟨r1, r2⟩ := Rel.made (o := .cells us.toArray e) (it := .v 1 (.d (.sl ie.size xs))) (v := .slice (some ⟨w.heap.size, 0, none⟩) len len) (l := .sl d) hr ⟨rfl, rfl, rfl, rfl⟩ hN (by simp [It.base]) (by
   refine ⟨[w.heap.size], ?_, by simp, by simp [owNew]⟩
   simp only [RP, RD]
   refine ⟨h1, .inr ⟨w.heap.size, 0, len, us.toArray, e, [], by rw [hxl], by omega, heap_alloc_new' w _, by simp [hus], rfl, rx (.sl d)⟩⟩)
  exact ⟨_, _, φ, _, by rw [hd]; exact r1, r2, fun _ _ => rfl, OpTo.value (by intro c hc; rw [hop] at hc; cases hc) hex⟩
end


theorem setCell_heap (w : World) (b o : Nat) (v : Value) (k : Nat) : (w.setCell ⟨b, o, none⟩ v).heap[k]? = if k = b then (w.heap[k]?).map (fun | .cells c e fz => .cells (c.setIfInBounds o v) e fz | x => x) else w.heap[k]? := by
 simp only [World.setCell, Array.getElem?_modify]
 by_cases hk : b = k
 ·subst hk
  simp only [if_true]
  cases w.heap[b]? with
  | none => rfl
  | some x => cases x <;> rfl
 ·rw [if_neg hk, if_neg (fun e => hk e.symm)]
theorem setCells_heap {b : Nat} {e : TypeId} {fz : Nat × Nat} : ∀ (vs : List Value) (o : Nat) (w : World) (c : Array Value), w.heap[b]? = some (.cells c e fz) →
  (w.setCells b o vs).os = w.os ∧ (w.setCells b o vs).tape = w.tape ∧ (w.setCells b o vs).output = w.output ∧ (w.setCells b o vs).heap.size = w.heap.size ∧ (∀ k, k ≠ b → (w.setCells b o vs).heap[k]? = w.heap[k]?) ∧
   ∃ c', (w.setCells b o vs).heap[b]? = some (.cells c' e fz) ∧ c'.size = c.size ∧ (∀ k, k < o ∨ o + vs.length ≤ k → c'[k]? = c[k]?) ∧ (o + vs.length ≤ c.size → ∀ j, j < vs.length → c'[o + j]? = vs[j]?)
 | [], o, w, c, h => ⟨rfl, rfl, rfl, rfl, fun _ _ => rfl, c, h, rfl, fun _ _ => rfl, fun _ j hj => by simp at hj⟩
 | v :: vs, o, w, c, h => by
  simp only [World.setCells]
  have h1 : (w.setCell ⟨b, o, none⟩ v).heap[b]? = some (.cells (c.setIfInBounds o v) e fz) := by rw [setCell_heap, if_pos rfl, h]; rfl
  obtain ⟨g1, g2, g3, g4, g5, c', g6, g7, g8, g9⟩ := setCells_heap vs (o + 1) _ _ h1
  refine ⟨g1, g2, g3, by rw [g4]; simp [World.setCell], fun k hk => by rw [g5 k hk, setCell_heap, if_neg hk], c', g6, by rw [g7]; simp, fun k hk => ?_, fun hl j hj => ?_⟩
  ·simp only [List.length_cons] at hk
   rw [g8 k (by omega), Array.getElem?_setIfInBounds, if_neg (by omega)]
  ·simp only [List.length_cons] at hl hj
   cases j with
   | zero =>
    rw [Nat.add_zero, g8 o (by omega), Array.getElem?_setIfInBounds, if_pos rfl, if_pos (by omega)]; rfl
   | succ j =>
    have := g9 (by simp; omega) j (by omega)
    rw [show o + (j + 1) = o + 1 + j by omega, this]; simp
theorem run_append_v_nil {P : Program} {w : World} {t ty e : TypeId} {i : TypeInfo} (ht : P.underlying t = some (.slice e)) (hi : P.info? e = some i) {a : Option Addr} {n cap : Nat} (hn : n ≤ cap) :
  (Builtin.append_ #[t, t] ty #[.slice a n cap, .slice none 0 0]).run P w = .ok (.slice a n cap) w := by
 cases a with
 | none => simp [Builtin.append_, run_und ht, sizeOf, typeInfo, hi, Builtin.lenOf, hn, Builtin.firstCells]
 | some a => simp [Builtin.append_, run_und ht, sizeOf, typeInfo, hi, Builtin.lenOf, hn, Builtin.firstCells, storeCells]
theorem run_append_nil_empty {P : Program} {w : World} {t ty e : TypeId} {i : TypeInfo} (ht : P.underlying t = some (.slice e)) (hi : P.info? e = some i) {p : Addr} {c : Nat} :
  (Builtin.append_ #[t, t] ty #[.slice none 0 0, .slice (some p) 0 c]).run P w = .ok (.slice none 0 0) w := by
 simp [Builtin.append_, run_und ht, sizeOf, typeInfo, hi, Builtin.lenOf, Builtin.firstCells, loadCells, loadCellsFrom]
theorem owNewTo_fz {w : World} {ow : Nat → Lab} {l l' : Lab} (hb : ∀ b, ow b ≠ .free → b < w.heap.size) (hl : l ≠ .frz) (hl' : l' ≠ .frz) (b : Nat) : Fz ow b → Fz (owNew (owTo ow l l') w.heap.size l') b := by
 intro h
 have := hb b (by rw [show ow b = .frz from h]; simp)
 simp only [Fz, owNew, owTo]
 rw [if_neg (by omega), if_neg (by rw [show ow b = .frz from h]; exact fun e => hl e.symm)]
 exact h
theorem owTo_fz {ow : Nat → Lab} {l l' : Lab} (hl : l ≠ .frz) (b : Nat) : Fz ow b → Fz (owTo ow l l') b := by
 intro h
 simp only [Fz, owTo]
 rw [if_neg (by rw [show ow b = .frz from h]; exact fun e => hl e.symm)]
 exact h
theorem append_own {P : Program} {w : World} {ow : Nat → Lab} {φ : Nat → Nat} {n : Nat} {t e ty s : Nat} {it ie : TI} {l l' ly : Lab} {v y : Value} {xs ys : List (List D)}
  (ht : tiOf P t = some it) (hk : it.k = .slice e) (he : tiOf P e = some ie) (hz : ie.zs = s + 1) (hs : ie.size = s)
  (hl : l ≠ .free ∧ l ≠ .frz) (hl' : l' ≠ .frz) (hb : ∀ b, ow b ≠ .free → b < w.heap.size)
  (hv : Own w ow φ n 1 (.d (.sl s xs)) v l) (hy : Rdb w ow ly 0 s ys y) (h63 : xs.length + ys.length ≤ 9223372036854775807) (hby : (xs.length + ys.length) * ie.bytes ≤ 140737488355328) :
  ∃ v' w' ow', (Builtin.append_ #[t, t] ty #[v, y]).run P w = .ok v' w' ∧ Keep [l] w ow w' ow' ∧ (∀ b, ow' b ≠ .free → b < w'.heap.size) ∧ Own w' ow' φ n 1 (.d (.sl s (xs ++ ys))) v' l' := by
 obtain ⟨inf, d, i1, i2, i3, i4, i5⟩ := tiOf_spec ht
 obtain ⟨inf', d', j1, j2, j3, j4, j5⟩ := tiOf_spec he
 obtain ⟨inf'', z, k1, k2, k3⟩ := tiOf_zero he hz
 rw [j1] at k1; cases k1
 rw [hk] at i5
 obtain rfl := tk_slice i5
 obtain ⟨hs1, ay, cy, rfl, hcy, us, u1, u2, u3, u4⟩ := hy.vals
 have hus : us.length = ys.length * inf'.size := by rw [u1, j3, hs]
 obtain ⟨B, hr, hnd, hB⟩ := hv
 simp only [RP, RD] at hr
 obtain ⟨_, hr⟩ := hr
 -- in place, nothing written
 have same : (v' : Value) → v' = v → ys = [] → Own w (owTo ow l l') φ n 1 (.d (.sl s (xs ++ ys))) v' l' := by
  rintro _ rfl rfl
  rw [List.append_nil]
  refine ⟨B, ?_, hnd, fun b hm => by simp only [owTo]; rw [if_pos (hB b hm)]⟩
  simp only [RP, RD]
  refine ⟨hs1, ?_⟩
  rcases hr with h | ⟨blk, off, cap, c, e', B', h1, h2, h3, h4, h5, h6⟩
  ·exact .inl h
  ·exact .inr ⟨blk, off, cap, c, e', B', h1, h2, h3, h4, h5, RX.mono (fun _ _ => rfl) (fun b => owTo_fz hl.2 b) _ _ _ _ _ _ rfl (fun _ _ => rfl) h6⟩
 rcases hr with ⟨rfl, rfl, rfl⟩ | ⟨blk, off, cap, c, e', B', rfl, hcap, hh, hoff, rfl, hrx⟩
 ·rcases u3 with ⟨rfl, rfl, rfl⟩ | ⟨p, rfl, hp, hu⟩
  ·exact ⟨_, w, owTo ow l l', run_append_v_nil i2 j1 (Nat.le_refl _), Keep.relab w ow l l' hl.1, bnd_relab hb hl.1, same _ rfl rfl⟩
  ·cases hys : ys with
   | nil =>
    subst hys
    exact ⟨_, w, owTo ow l l', run_append_nil_empty i2 j1, Keep.relab w ow l l' hl.1, bnd_relab hb hl.1, same _ rfl rfl⟩
   | cons y0 yr =>
    rw [← hys]
    have hpos : 0 < ys.length := by rw [hys]; simp
    simp only [List.length_nil, Nat.zero_add] at h63 hby
    have hrun := run_append_nil (P := P) w t ty e inf' z i2 j1 k2 p ys.length cy us hus hu hpos (by omega) (by rw [j4]; omega)
    have hge := grownCap_ge w ys.length 0 e
    refine ⟨_, _, owNew (owTo ow l l') w.heap.size l', hrun, ?_, ?_, ?_⟩
    ·have k := (Keep.relab w ow l l' hl.1).trans (((Keep.alloc (w := w) (ow := owTo ow l l') (bnd_relab hb hl.1) (.cells (us.toArray ++ Builtin.zeroCells z.cells (grownCap w ys.length 0 e - ys.length)) e) l').more (S' := [l]) (by simp)))
     exact ⟨k.os, k.tape, k.output, k.size, k.free, k.keep⟩
    ·exact bnd_alloc (w := w) (ow := owTo ow l l') (bnd_relab hb hl.1) _ l'
    ·refine ⟨[w.heap.size], ?_, by simp, by simp [owNew]⟩
     simp only [RP, RD, List.nil_append]
     refine ⟨hs1, .inr ⟨w.heap.size, 0, _, _, e, [], rfl, hge, heap_alloc_new' w.drew _, ?_, rfl, ?_⟩⟩
     ·simp only [Array.size_append, List.size_toArray, Builtin.zeroCells, Array.size_map, Array.size_range, k3, u1, Nat.zero_add, ← Nat.add_mul]
      exact Nat.mul_le_mul_right _ (by omega)
     ·refine u4 _ _ _ _ (fun b hbz => heap_alloc_old w.drew _ (hb b (by rw [show ow b = .frz from hbz]; simp))) (fun b hbz => owNewTo_fz hb hl.2 hl' b hbz) fun j u hj => ?_
      have hm := mem_alloc_new w.drew (us.toArray ++ Builtin.zeroCells z.cells (grownCap w ys.length 0 e - ys.length)) e (0, 0) (0 + j)
      refine hm.trans ?_
      have hjl : j < us.length := by
       rcases Nat.lt_or_ge j us.length with h | h
       ·exact h
       ·rw [List.getElem?_eq_none h] at hj; simp at hj
      rw [Nat.zero_add, Array.getElem?_append_left (by simpa using hjl)]
      simpa using hj
 ·-- a row that lies
  have hlab : ow blk = l := hB blk (by simp)
  obtain ⟨os, o1, o2, o3, o4⟩ := RX.vals hrx
  have hblt : blk < w.heap.size := hb blk (by rw [hlab]; exact hl.1)
  have hBB : ∀ b ∈ B', ow b = l := fun b hm => hB b (by simp [hm])
  have hB0 : B' = [] := by
   have : ∀ (xs : List (List D)) (off : Nat) (B : List Nat), RX w (Fz ow) 0 s xs blk off B → B = [] := by
    intro xs
    induction xs with
    | nil => intro off B h; simpa [RX] using h
    | cons y ys ih =>
     intro off B h
     simp only [RX] at h
     obtain ⟨B1, B2, _, rfl, h1, h2⟩ := h
     rw [RC.zeroB _ _ _ h1, ih _ _ h2]; rfl
   exact this xs _ B' hrx
  subst hB0
  by_cases hroom : xs.length + ys.length ≤ cap
  ·-- there is room
   have hcl : (xs.length + ys.length) * s ≤ cap * s := Nat.mul_le_mul_right _ hroom
   have hfit : off + xs.length * s + us.length ≤ c.size := by rw [u1]; rw [Nat.add_mul] at hcl; omega
   obtain ⟨g1, g2, g3, g4, g5, c', g6, g7, g8, g9⟩ := setCells_heap (b := blk) us (off + xs.length * inf'.size) w c hh
   have hcell : ∀ j, j < us.length → (w.cell? ⟨blk, off + xs.length * inf'.size + j, none⟩).isSome = true := by
    intro j hj
    simp only [World.cell?, hh]
    rw [j3, hs]
    simp; omega
   have hrun : ∃ cc, (Builtin.append_ #[t, t] ty #[.slice (some ⟨blk, off, none⟩) xs.length cap, .slice ay ys.length cy]).run P w = .ok (.slice (some ⟨blk, off, none⟩) (xs.length + ys.length) cap) cc ∧ cc = w.setCells blk (off + xs.length * inf'.size) us := by
    rcases u3 with ⟨rfl, rfl, rfl⟩ | ⟨p, rfl, hp, hu⟩
    ·have : us = [] := List.length_eq_zero_iff.1 (by simpa using u1)
     subst this
     exact ⟨w, run_append_v_nil i2 j1 hcap, rfl⟩
    ·exact ⟨_, run_append_room_cells (P := P) w t ty e inf' i2 j1 blk off xs.length cap p ys.length cy us hus hu u2 hroom hcell (fun j hj => by simp [World.frozen?, hh]), rfl⟩
   obtain ⟨cc, hrun, rfl⟩ := hrun
   have hfz : ∀ b, Fz ow b → (w.setCells blk (off + xs.length * inf'.size) us).heap[b]? = w.heap[b]? := fun b hbz => g5 b (by
    rintro rfl
    rw [show ow b = .frz from hbz] at hlab
    exact hl.2 hlab.symm)
   refine ⟨_, _, owTo ow l l', hrun, ⟨g1, g2, g3, by rw [g4]; exact Nat.le_refl _, fun b hb1 hb2 => ⟨g5 b (by rintro rfl; rw [hb2] at hlab; exact hl.1 hlab.symm), ?_⟩, fun b hb1 hb2 => ⟨g5 b (by rintro rfl; exact hb2 (by simp [hlab])), ?_⟩⟩, fun b hbb => by rw [g4]; exact bnd_relab hb hl.1 b hbb, ?_⟩
   ·simp only [owTo]; rw [if_neg (by rw [hb2]; exact fun e => hl.1 e.symm)]; exact hb2
   ·simp only [owTo]; rw [if_neg (by intro e; exact hb2 (by simp [e]))]
   ·refine ⟨[blk], ?_, by simp, fun b hm => ?_⟩
    ·simp only [RP, RD]
     refine ⟨hs1, .inr ⟨blk, off, cap, c', e', [], by simp, by simpa using hroom, g6, by rw [g7]; exact hoff, rfl, ?_⟩⟩
     refine RX.append (B1 := []) (B2 := []) (o4 blk off _ _ hfz (fun b => owTo_fz hl.2 b) (by simp) fun j u hj => ?_) (u4 blk (off + xs.length * s) _ _ hfz (fun b => owTo_fz hl.2 b) fun j u hj => ?_)
     ·have hjl : j < os.length := by
       rcases Nat.lt_or_ge j os.length with h | h
       ·exact h
       ·rw [List.getElem?_eq_none h] at hj; simp at hj
      have h0 := o2 j u hj
      simp only [mem, World.cell?, hh] at h0
      simp only [mem, World.cell?, g6]
      rw [o1] at hjl
      simpa [g8 (off + j) (.inl (by rw [j3, hs]; omega))] using h0
     ·have hjl : j < us.length := by
       rcases Nat.lt_or_ge j us.length with h | h
       ·exact h
       ·rw [List.getElem?_eq_none h] at hj; simp at hj
      have h9 := g9 (by rw [j3, hs]; exact hfit) j hjl
      rw [j3, hs] at h9
      simp only [mem, World.cell?, g6]
      simpa [h9] using hj
    ·obtain rfl := List.mem_singleton.1 hm
     simp only [owTo]; rw [if_pos hlab]
  ·-- it grows
   have hys : ys ≠ [] := by rintro rfl; simp at hroom; omega
   rcases u3 with ⟨_, rfl, _⟩ | ⟨p, rfl, hp, hu⟩
   ·exact absurd rfl hys
   ·have hrun := run_append_grow (P := P) w t ty e inf' z i2 j1 k2 ⟨blk, off, none⟩ xs.length cap os (by rw [o1, j3, hs]) (fun j u hj => by rw [addr_add]; exact o2 j u hj) p ys.length cy us hus hu (by omega) (by omega) (growslice_fits (by omega) (by rw [j4]; exact hby))
    have hge := grownCap_ge w (xs.length + ys.length) cap e
    refine ⟨_, _, owNew (owTo ow l l') w.heap.size l', hrun, ?_, ?_, ?_⟩
    ·have k := (Keep.relab w ow l l' hl.1).trans (((Keep.alloc (w := w) (ow := owTo ow l l') (bnd_relab hb hl.1) (.cells (os.toArray ++ us.toArray ++ Builtin.zeroCells z.cells (grownCap w (xs.length + ys.length) cap e - (xs.length + ys.length))) e) l').more (S' := [l]) (by simp)))
     exact ⟨k.os, k.tape, k.output, k.size, k.free, k.keep⟩
    ·exact bnd_alloc (w := w) (ow := owTo ow l l') (bnd_relab hb hl.1) _ l'
    ·refine ⟨[w.heap.size], ?_, by simp, by simp [owNew]⟩
     simp only [RP, RD]
     refine ⟨hs1, .inr ⟨w.heap.size, 0, grownCap w (xs.length + ys.length) cap e, _, e, [], by rw [List.length_append], by rw [List.length_append]; exact hge, heap_alloc_new' w.drew _, ?_, rfl, ?_⟩⟩
     ·simp only [Array.size_append, List.size_toArray, Builtin.zeroCells, Array.size_map, Array.size_range, k3, u1, o1, Nat.zero_add, ← Nat.add_mul]
      exact Nat.mul_le_mul_right _ (by omega)
     ·have hfz : ∀ b, Fz ow b → (w.drew.alloc (.cells (os.toArray ++ us.toArray ++ Builtin.zeroCells z.cells (grownCap w (xs.length + ys.length) cap e - (xs.length + ys.length))) e)).heap[b]? = w.heap[b]? := fun b hbz => heap_alloc_old w.drew _ (hb b (by rw [show ow b = .frz from hbz]; simp))
      refine RX.append (B1 := []) (B2 := []) (o4 _ _ _ _ hfz (fun b hbz => owNewTo_fz hb hl.2 hl' b hbz) (by simp) fun j u hj => ?_) (u4 _ _ _ _ hfz (fun b hbz => owNewTo_fz hb hl.2 hl' b hbz) fun j u hj => ?_)
      ·have hm := mem_alloc_new w.drew (os.toArray ++ us.toArray ++ Builtin.zeroCells z.cells (grownCap w (xs.length + ys.length) cap e - (xs.length + ys.length))) e (0, 0) (0 + j)
       refine hm.trans ?_
       have hjl : j < os.length := by
        rcases Nat.lt_or_ge j os.length with h | h
        ·exact h
        ·rw [List.getElem?_eq_none h] at hj; simp at hj
       rw [Nat.zero_add, Array.append_assoc, Array.getElem?_append_left (by simpa using hjl)]
       simpa using hj
      ·have hm := mem_alloc_new w.drew (os.toArray ++ us.toArray ++ Builtin.zeroCells z.cells (grownCap w (xs.length + ys.length) cap e - (xs.length + ys.length))) e (0, 0) (0 + xs.length * s + j)
       refine hm.trans ?_
       have hjl : j < us.length := by
        rcases Nat.lt_or_ge j us.length with h | h
        ·exact h
        ·rw [List.getElem?_eq_none h] at hj; simp at hj
       rw [Nat.zero_add, ← o1, Array.append_assoc, Array.getElem?_append_right (by simp), Array.getElem?_append_left (by simpa using hjl)]
       simpa using hj


theorem append_frz {P : Program} {w : World} {ow : Nat → Lab} {φ : Nat → Nat} {n : Nat} {ts : Array Value} {t e ty s : Nat} {it ie : TI} {l' ly : Lab} {y : Value} {a : Option Addr} {xs ys : List (List D)}
  (ht : tiOf P t = some it) (hk : it.k = .slice e) (he : tiOf P e = some ie) (hz : ie.zs = s + 1) (hs : ie.size = s) (hl' : l' ≠ .frz) (hb : ∀ b, ow b ≠ .free → b < w.heap.size)
  (hv : RD w (Fz ow) 0 (.sl s xs) (.slice a xs.length xs.length) []) (hy : Rdb w ow ly 0 s ys y) (h63 : xs.length + ys.length ≤ 9223372036854775807) (hby : (xs.length + ys.length) * ie.bytes ≤ 140737488355328) :
  ∃ v' w' ow', (Builtin.append_ #[t, t] ty #[.slice a xs.length xs.length, y]).run P w = .ok v' w' ∧ Keep [] w ow w' ow' ∧ (∀ b, ow' b ≠ .free → b < w'.heap.size) ∧ RV w' ow' φ n ts l' (.ap s (xs ++ ys)) v' := by
 obtain ⟨inf, d, i1, i2, i3, i4, i5⟩ := tiOf_spec ht
 obtain ⟨inf', d', j1, j2, j3, j4, j5⟩ := tiOf_spec he
 obtain ⟨inf'', z, k1, k2, k3⟩ := tiOf_zero he hz
 rw [j1] at k1; cases k1
 rw [hk] at i5
 obtain rfl := tk_slice i5
 obtain ⟨hs1, ay, cy, rfl, hcy, us, u1, u2, u3, u4⟩ := hy.vals
 have hus : us.length = ys.length * inf'.size := by rw [u1, j3, hs]
 have hv' := hv
 simp only [RD] at hv
 obtain ⟨_, _, a', cap', hva, hcap, hsp, hnone, hrx⟩ := hv
 cases hva
 have same : ys = [] → RV w ow φ n ts l' (.ap s (xs ++ ys)) (.slice a xs.length xs.length) := by
  rintro rfl
  rw [List.append_nil]
  exact .inr ⟨a, rfl, hv'⟩
 cases hys : ys with
 | nil =>
  subst hys
  rcases u3 with ⟨rfl, _, rfl⟩ | ⟨p, rfl, hp, hu⟩
  ·exact ⟨_, w, ow, run_append_v_nil i2 j1 (Nat.le_refl _), Keep.refl w ow, hb, same rfl⟩
  ·cases a with
   | none =>
    have : xs = [] := List.length_eq_zero_iff.1 (hnone rfl)
    subst this
    exact ⟨_, w, ow, run_append_nil_empty i2 j1, Keep.refl w ow, hb, same rfl⟩
   | some q =>
    have : us = [] := List.length_eq_zero_iff.1 (by simpa using u1)
    subst this
    have hfc := run_firstCells_some (P := P) w inf'.size 0 p 0 cy [] (by simp) (by simp)
    have hrun : (Builtin.append_ #[t, t] ty #[.slice (some q) xs.length xs.length, .slice (some p) 0 cy]).run P w = .ok (.slice (some q) xs.length xs.length) w := by
     simp [Builtin.append_, run_underlying i2, sizeOf, typeInfo, j1, Builtin.lenOf, hfc, storeCells]
    exact ⟨_, w, ow, hrun, Keep.refl w ow, hb, same rfl⟩
 | cons y0 yr =>
  rw [← hys]
  have hpos : 0 < ys.length := by rw [hys]; simp
  have hne : ys ≠ [] := by rw [hys]; simp
  rcases u3 with ⟨_, h0, _⟩ | ⟨p, rfl, hp, hu⟩
  ·exact absurd h0 hne
  ·-- what was there
   have hos : ∃ os : List Value, os.length = xs.length * s ∧ (∀ blk' off' (w' : World) (Z' : Nat → Prop), (∀ b, Fz ow b → w'.heap[b]? = w.heap[b]?) → (∀ b, Fz ow b → Z' b) → (∀ j v, os[j]? = some v → mem w' blk' (off' + j) = some v) → RX w' Z' 0 s xs blk' off' []) ∧
     ∃ nc, xs.length + ys.length ≤ nc ∧ (Builtin.append_ #[t, t] ty #[.slice a xs.length xs.length, .slice (some p) ys.length cy]).run P w =
      .ok (.slice (some ⟨w.heap.size, 0, none⟩) (xs.length + ys.length) nc) (w.drew.alloc (.cells (os.toArray ++ us.toArray ++ Builtin.zeroCells z.cells (nc - (xs.length + ys.length))) e)) := by
    have hr := hy
    obtain ⟨_, a2, c2, e2, hc2, os, o1, o2, o3, o4⟩ := (Rdb.of0 (l := .free) hv').vals
    cases e2
    rcases o3 with ⟨rfl, rfl, _⟩ | ⟨q, rfl, hq, ho⟩
    ·have : os = [] := List.length_eq_zero_iff.1 (by simpa using o1)
     subst this
     have hrun := run_append_nil (P := P) w t ty e inf' z i2 j1 k2 p ys.length cy us hus hu hpos (by simp at h63; omega) (by rw [j4]; simp at hby; omega)
     refine ⟨[], by simp, fun _ _ _ _ _ _ _ => by simp [RX], _, by simpa using grownCap_ge w ys.length 0 e, ?_⟩
     simpa using hrun
    ·have hrun := run_append_grow (P := P) w t ty e inf' z i2 j1 k2 q xs.length xs.length os (by rw [o1, j3, hs]) ho p ys.length cy us hus hu (by omega) (by omega) (growslice_fits (by omega) (by rw [j4]; exact hby))
     exact ⟨os, o1, o4, _, grownCap_ge w (xs.length + ys.length) xs.length e, hrun⟩
   obtain ⟨os, o1, o4, nc, hnc, hrun⟩ := hos
   generalize hcells : (os.toArray ++ us.toArray ++ Builtin.zeroCells z.cells (nc - (xs.length + ys.length))) = cells at hrun
   have hfz : ∀ b, Fz ow b → (w.drew.alloc (.cells cells e)).heap[b]? = w.heap[b]? := fun b hbz => heap_alloc_old w.drew _ (hb b (by rw [show ow b = .frz from hbz]; simp))
   have hfn : ∀ b, Fz ow b → Fz (owNew ow w.heap.size l') b := fun b hbz => by
    have := hb b (by rw [show ow b = .frz from hbz]; simp)
    simp only [Fz, owNew]; rw [if_neg (by omega)]; exact hbz
   have k := Keep.alloc (w := w) (ow := ow) hb (.cells cells e) l'
   refine ⟨_, _, owNew ow w.heap.size l', hrun, ⟨k.os, k.tape, k.output, k.size, k.free, k.keep⟩, bnd_alloc (w := w) (ow := ow) hb _ l', .inl ⟨[w.heap.size], ?_, by simp, by simp [owNew]⟩⟩
   simp only [RP, RD]
   refine ⟨hs1, .inr ⟨w.heap.size, 0, nc, cells, e, [], by rw [List.length_append], by rw [List.length_append]; exact hnc, heap_alloc_new' w.drew _, ?_, rfl, ?_⟩⟩
   ·rw [← hcells]
    simp only [Array.size_append, List.size_toArray, Builtin.zeroCells, Array.size_map, Array.size_range, k3, u1, o1, Nat.zero_add, ← Nat.add_mul]
    exact Nat.mul_le_mul_right _ (by omega)
   ·refine RX.append (B1 := []) (B2 := []) (o4 _ _ _ _ hfz hfn fun j u hj => ?_) (u4 _ _ _ _ hfz hfn fun j u hj => ?_)
    ·have hm := mem_alloc_new w.drew cells e (0, 0) (0 + j)
     refine hm.trans ?_
     have hjl : j < os.length := by
      rcases Nat.lt_or_ge j os.length with h | h
      ·exact h
      ·rw [List.getElem?_eq_none h] at hj; simp at hj
     rw [← hcells, Nat.zero_add, Array.append_assoc, Array.getElem?_append_left (by simpa using hjl)]
     simpa using hj
    ·have hm := mem_alloc_new w.drew cells e (0, 0) (0 + xs.length * s + j)
     refine hm.trans ?_
     have hjl : j < us.length := by
      rcases Nat.lt_or_ge j us.length with h | h
      ·exact h
      ·rw [List.getElem?_eq_none h] at hj; simp at hj
     rw [← hcells, Nat.zero_add, ← o1, Array.append_assoc, Array.getElem?_append_right (by simp), Array.getElem?_append_left (by simpa using hjl)]
     simpa using hj
def baseOf (env : Env) (x : Operand) : Option (Option (Nat × Bool) × Nat × List (List D)) :=
 match opd env x with
 | some .nils => some (none, 0, [])
 | some (.b (.slot r)) => match look env r with
  | some (.v 1 (.d (.sl s xs))) => some (some (r, false), s, xs)
  | some (.ap s xs) => some (some (r, true), s, xs)
  | _ => none
 | some (.v 1 (.d (.sl s xs))) => match x with
  | .tmp r => some (some (r, false), s, xs)
  | _ => none
 | some (.ap s xs) => match x with
  | .tmp r => some (some (r, true), s, xs)
  | _ => none
 | _ => none
def BaseRel (w : World) (ow : Nat → Lab) (φ : Nat → Nat) (n : Nat) (ts : Array Value) (s : Nat) (xs : List (List D)) (v : Value) : Option (Nat × Bool) → Prop
 | none => v = .slice none 0 0 ∧ xs = []
 | some (r, false) => Own w ow φ n 1 (.d (.sl s xs)) v (.sl r)
 | some (r, true) => RV w ow φ n ts (.sl r) (.ap s xs) v
theorem baseOf_sound {N : Nat} {w : World} {ow : Nat → Lab} {φ : Nat → Nat} {ts : Array Value} {st : St} (h : Rel N w ow φ ts st) {x : Operand} {r : Option (Nat × Bool)} {s : Nat} {xs : List (List D)} (hx : baseOf st.env x = some (r, s, xs)) :
  BaseRel w ow φ st.objs.length ts s xs (evalT ts x) r := by
 unfold baseOf at hx
 split at hx
 ·rename_i ho
  cases hx
  exact ⟨opd_rel h ho, rfl⟩
 ·rename_i r' ho
  have hh : ts[r']? = some (evalT ts x) := opd_rel h ho
  split at hx
  ·rename_i s' xs' hl
   cases hx
   obtain ⟨v, hv, hr⟩ := h.env _ _ (look_mem hl)
   rw [hh] at hv; cases hv
   exact hr
  ·rename_i s' xs' hl
   cases hx
   obtain ⟨v, hv, hr⟩ := h.env _ _ (look_mem hl)
   rw [hh] at hv; cases hv
   exact hr
  ·cases hx
 ·rename_i s' xs' ho
  split at hx
  ·cases hx
   exact opd_rel h ho
  ·cases hx
 ·rename_i s' xs' ho
  split at hx
  ·cases hx
   exact opd_rel h ho
  ·cases hx
 ·cases hx
section
variable {P : Program} {T : Tab} {N : Nat} {st : St}
def setE' (st : St) (d : Nat) (S : List Lab) (it : It) : St := { st with env := (d, it) :: st.env.filter (keeps (some d) S) }
theorem OpJ.turn {o : Oper} {d : Nat} {S : List Lab} {it : It} (hp : Oper.plain o) (hd : o.dst = some d) (hN : d < N) (hb : it.base = none) (hS : Lab.frz ∉ S) (hX : Lab.ext ∉ S) (hM : Lab.mk ∉ S) (hbx : ∀ i, Lab.bx i ∉ S) (hce : ∀ i j, Lab.ce i j ∉ S)
  (h : ∀ w ow φ ts, Rel N w ow φ ts st → ∃ v w' ow', (execOp (evalT ts) o).run P w = .ok (.value v) w' ∧ Keep S w ow w' ow' ∧ (∀ b, ow' b ≠ .free → b < w'.heap.size) ∧
   ∀ ts', RV w' ow' φ st.objs.length ts' (.sl d) it v) : OpJ P N o st (setE' st d S it) := by
 intro w ow φ ts hr
 obtain ⟨v, w', ow', hrun, hk, hbd, hv⟩ := h w ow φ ts hr
 refine ⟨w', ow', φ, v, ?_, hk.mods hS, fun _ _ => rfl, OpTo.value hp hrun⟩
 rw [hd]
 refine Rel.step (new := [(d, it)]) hr hk hS hX hM (fun _ _ => rfl) (Nat.le_refl _) ?_ ?_ hbd
 ·intro e he
  obtain rfl := List.mem_singleton.1 he
  exact ⟨v, putO_same (by rw [hr.tsz]; exact hN), hv _⟩
 ·intro i cs hc
  exact .inl ⟨cs, hc, rfl, hbx i, fun j m p _ => .inr (hce i j)⟩
def apLab (d : Nat) : Option (Nat × Bool) → List Lab
 | none => [.sl d]
 | some (r, _) => [.sl r]
def apIt (s : Nat) (xs : List (List D)) : Option (Nat × Bool) → It
 | some (_, true) => .ap s xs
 | _ => .v 1 (.d (.sl s xs))
theorem opj_append (hT : TOK P T) {o : Oper} {d t e s : Nat} {x y : Operand} {r : Option (Nat × Bool)} {xs ys : List (List D)} {it ie : TI} {s0 : Nat} {orc orc' : List Orc} {obs : List Prop}
  (hop : o.op = .call { callee := .builtin .append, args := #[x, y], argTypes := #[t, t] }) (hd : o.dst = some d) (hN : d < N)
  (ht : tab T t = some it) (hk : it.k = .slice e) (he : tab T e = some ie) (hz : ie.zs = s + 1) (hs : ie.size = s)
  (hx : baseOf st.env x = some (r, s0, xs)) (hs0 : r.isSome → s0 = s) (hy : srcOf st.env st.objs y orc = some ((s, ys), obs, orc')) (ho : AllP obs)
  (h63 : xs.length + ys.length ≤ 9223372036854775807) (hby : (xs.length + ys.length) * ie.bytes ≤ 140737488355328) :
  OpJ P N o st (setE' st d (apLab d r) (apIt s (xs ++ ys) r)) := by
 have hp : Oper.plain o := by intro c hc; rw [hop] at hc; cases hc
 have hex : ∀ (ts : Array Value) (w w' : World) (v : Value), (Builtin.append_ #[t, t] o.type #[evalT ts x, evalT ts y]).run P w = .ok v w' → (execOp (evalT ts) o).run P w = .ok (.value v) w' := by
  intro ts w w' v hv
  simp [execOp, hop, resolve, invoke, builtin, hv]
 refine OpJ.turn hp hd hN ?_ ?_ ?_ ?_ ?_ ?_ ?_
 ·rcases r with _ | ⟨r, _ | _⟩ <;> rfl
 ·rcases r with _ | ⟨r, _⟩ <;> simp [apLab]
 ·rcases r with _ | ⟨r, _⟩ <;> simp [apLab]
 ·rcases r with _ | ⟨r, _⟩ <;> simp [apLab]
 ·intro i; rcases r with _ | ⟨r, _⟩ <;> simp [apLab]
 ·intro i j; rcases r with _ | ⟨r, _⟩ <;> simp [apLab]
 ·intro w ow φ ts hr
  have hbase := baseOf_sound hr hx
  obtain ⟨ly, hsrc⟩ := srcOf_sound hr hy ho
  match r, hs0, hbase with
  | none, _, ⟨hv, hx0⟩ =>
   subst hx0
   have hown : Own w ow φ st.objs.length 1 (.d (.sl s [])) (.slice none 0 0) (.sl d) := ⟨[], by simp only [RP, RD]; exact ⟨by have := hsrc.1; omega, .inl ⟨trivial, trivial, trivial⟩⟩, by simp, by simp⟩
   obtain ⟨v', w', ow', h1, h2, h3, h4⟩ := append_own (P := P) (ty := o.type) (l' := .sl d) (hT _ _ ht) hk (hT _ _ he) hz hs (by simp) (by simp) hr.bnd hown hsrc h63 hby
   rw [← hv] at h1
   exact ⟨v', w', ow', hex _ _ _ _ h1, h2, h3, fun _ => h4⟩
  | some (r, false), hs0, hown =>
   obtain rfl := hs0 rfl
   obtain ⟨v', w', ow', h1, h2, h3, h4⟩ := append_own (P := P) (ty := o.type) (l' := .sl d) (hT _ _ ht) hk (hT _ _ he) hz hs (by simp) (by simp) hr.bnd hown hsrc h63 hby
   exact ⟨v', w', ow', hex _ _ _ _ h1, h2, h3, fun _ => h4⟩
  | some (r, true), hs0, hap =>
   obtain rfl := hs0 rfl
   rcases hap with hown | ⟨a, hv, hrd⟩
   ·obtain ⟨v', w', ow', h1, h2, h3, h4⟩ := append_own (P := P) (ty := o.type) (l' := .sl d) (hT _ _ ht) hk (hT _ _ he) hz hs (by simp) (by simp) hr.bnd hown hsrc h63 hby
    exact ⟨v', w', ow', hex _ _ _ _ h1, h2, h3, fun _ => .inl h4⟩
   ·obtain ⟨v', w', ow', h1, h2, h3, h4⟩ := append_frz (P := P) (φ := φ) (n := st.objs.length) (ts := ts) (ty := o.type) (l' := .sl d) (hT _ _ ht) hk (hT _ _ he) hz hs (by simp) hr.bnd hrd hsrc h63 hby
    rw [← hv] at h1
    exact ⟨v', w', ow', hex _ _ _ _ h1, h2.more (by simp), h3, fun _ => h4⟩
end


theorem RC.of0 {w : World} {Z : Nat → Prop} {g : Nat → Option Value} : ∀ {cs : List D} {off : Nat}, (∀ o c, cs[o]? = some c → ∃ v, g (off + o) = some v ∧ RD w Z 0 c v []) → RC w Z 0 cs g off []
 | [], off, h => by simp [RC]
 | c :: cs, off, h => by
  obtain ⟨v, h1, h2⟩ := h 0 c (by simp)
  simp only [RC]
  exact ⟨v, [], [], by simpa using h1, rfl, h2, RC.of0 fun o c' hc => by
   obtain ⟨v', h3, h4⟩ := h (o + 1) c' (by simpa using hc)
   exact ⟨v', by rw [← h3]; congr 1; omega, h4⟩⟩
theorem RC.at0 {w : World} {Z : Nat → Prop} {g : Nat → Option Value} {cs : List D} {off : Nat} (h : RC w Z 0 cs g off []) {o : Nat} {c : D} (hc : cs[o]? = some c) : ∃ v, g (off + o) = some v ∧ RD w Z 0 c v [] := by
 obtain ⟨v, _, B1, _, h1, _, h2⟩ := RC.get _ _ _ _ _ _ h hc
 obtain rfl := RD.zeroB h2
 exact ⟨v, h1, h2⟩
theorem RX.of0 {w : World} {Z : Nat → Prop} {s blk : Nat} : ∀ {xs : List (List D)} {off : Nat}, (∀ i x, xs[i]? = some x → x.length = s ∧ RC w Z 0 x (mem w blk) (off + i * s) []) → RX w Z 0 s xs blk off []
 | [], off, h => by simp [RX]
 | x :: xs, off, h => by
  obtain ⟨h1, h2⟩ := h 0 x (by simp)
  simp only [RX]
  exact ⟨[], [], h1, rfl, by simpa using h2, RX.of0 fun i y hy => by
   obtain ⟨h3, h4⟩ := h (i + 1) y (by simpa using hy)
   refine ⟨h3, ?_⟩
   have : off + s + i * s = off + (i + 1) * s := by rw [Nat.add_mul]; omega
   rw [this]; exact h4⟩
theorem RX.at0 {w : World} {Z : Nat → Prop} {s blk off : Nat} {xs : List (List D)} (h : RX w Z 0 s xs blk off []) {i : Nat} {x : List D} (hx : xs[i]? = some x) : x.length = s ∧ RC w Z 0 x (mem w blk) (off + i * s) [] := by
 obtain ⟨h1, B1, B0, B2, hB, h2⟩ := RX.get _ _ _ _ _ _ _ _ h hx
 obtain ⟨h3, _⟩ := List.append_eq_nil_iff.1 hB.symm
 obtain ⟨_, rfl⟩ := List.append_eq_nil_iff.1 h3
 exact ⟨h1, h2⟩
theorem RX.zeroB {w : World} {Z : Nat → Prop} {s blk : Nat} : ∀ {xs : List (List D)} {off : Nat} {B : List Nat}, RX w Z 0 s xs blk off B → B = []
 | [], off, B, h => by simpa [RX] using h
 | x :: xs, off, B, h => by
  simp only [RX] at h
  obtain ⟨B1, B2, _, rfl, h1, h2⟩ := h
  rw [RC.zeroB _ _ _ h1, RX.zeroB h2]; rfl
def setSeg {α : Type} (cs : List α) (o : Nat) (vs : List α) : List α := cs.take o ++ vs ++ cs.drop (o + vs.length)
theorem setSeg_length {α : Type} {cs vs : List α} {o : Nat} (h : o + vs.length ≤ cs.length) : (setSeg cs o vs).length = cs.length := by
 simp [setSeg]; omega
theorem setSeg_get {α : Type} {cs vs : List α} {o k : Nat} (h : o + vs.length ≤ cs.length) : (setSeg cs o vs)[k]? = if o ≤ k ∧ k < o + vs.length then vs[k - o]? else cs[k]? := by
 unfold setSeg
 rw [List.append_assoc, List.getElem?_append]
 have hl : (cs.take o).length = o := by simp; omega
 rw [hl]
 by_cases h1 : k < o
 ·rw [if_pos h1, if_neg (by omega), List.getElem?_take, if_pos h1]
 ·rw [if_neg h1, List.getElem?_append]
  by_cases h2 : k - o < vs.length
  ·rw [if_pos h2, if_pos (by omega)]
  ·rw [if_neg h2, if_neg (by omega), List.getElem?_drop]
   congr 1; omega
theorem Own.relab {w : World} {ow : Nat → Lab} {φ : Nat → Nat} {n m : Nat} {p : PV} {v : Value} {l l' : Lab} (hl : l ≠ .frz) (h : Own w ow φ n m p v l) : Own w (owTo ow l l') φ n m p v l' := by
 obtain ⟨B, hr, hnd, hb⟩ := h
 refine ⟨B, RP.mono (fun _ _ => rfl) (fun b => owTo_fz hl b) (fun _ _ => rfl) (Nat.le_refl _) _ _ _ _ (fun _ _ => rfl) hr, hnd, fun b hm => ?_⟩
 simp only [owTo]; rw [if_pos (hb b hm)]
section
variable {P : Program} {T : Tab} {N : Nat} {st : St}
def ownIt : It → Bool
 | .v (_ + 1) _ => true
 | .ap _ _ => true
 | _ => false
def movOf (env : Env) (r : Nat) : Option (Nat × It) :=
 match look env r with
 | some (.v (m + 1) p) => some (r, .v (m + 1) p)
 | some (.ap s xs) => some (r, .ap s xs)
 | some (.b (.slot q)) => match look env q with
  | some (.v (m + 1) p) => some (q, .v (m + 1) p)
  | some (.ap s xs) => some (q, .ap s xs)
  | _ => none
 | _ => none
theorem movOf_sound {w : World} {ow : Nat → Lab} {φ : Nat → Nat} {ts : Array Value} (h : Rel N w ow φ ts st) {r q : Nat} {it : It} (hm : movOf st.env r = some (q, it)) :
  RV w ow φ st.objs.length ts (.sl q) it (evalT ts (.tmp r)) ∧ it.base = none ∧ ∀ w' ow' l', (∀ m p v l, l ≠ .frz → Own w ow φ st.objs.length m p v l → Own w' ow' φ st.objs.length m p v l') → (∀ b, Fz ow b → w'.heap[b]? = w.heap[b]? ∧ Fz ow' b) →
   ∀ ts', RV w' ow' φ st.objs.length ts' l' it (evalT ts (.tmp r)) := by
 have key : ∀ (q : Nat) (it : It), ownIt it = true → RV w ow φ st.objs.length ts (.sl q) it (evalT ts (.tmp r)) → RV w ow φ st.objs.length ts (.sl q) it (evalT ts (.tmp r)) ∧ it.base = none ∧ ∀ w' ow' l', (∀ m p v l, l ≠ .frz → Own w ow φ st.objs.length m p v l → Own w' ow' φ st.objs.length m p v l') → (∀ b, Fz ow b → w'.heap[b]? = w.heap[b]? ∧ Fz ow' b) →
   ∀ ts', RV w' ow' φ st.objs.length ts' l' it (evalT ts (.tmp r)) := by
  intro q it hi hr
  cases it with
  | v m p =>
   cases m with
   | zero => simp [ownIt] at hi
   | succ m => exact ⟨hr, rfl, fun w' ow' l' h1 h2 ts' => h1 _ _ _ _ (by simp) hr⟩
  | ap s xs =>
   refine ⟨hr, rfl, fun w' ow' l' h1 h2 ts' => ?_⟩
   rcases hr with ho | ⟨a, hv, hrd⟩
   ·exact .inl (h1 _ _ _ _ (by simp) ho)
   ·exact .inr ⟨a, hv, RD.mono (fun b hb => (h2 b hb).1) (fun b hb => (h2 b hb).2) 0 _ _ [] (by simp) hrd⟩
  | _ => simp [ownIt] at hi
 unfold movOf at hm
 split at hm
 ·rename_i m p hl
  cases hm
  obtain ⟨v, hv, hr⟩ := h.env _ _ (look_mem hl)
  rw [← evalT_get hv] at hr
  exact key _ _ rfl hr
 ·rename_i s xs hl
  cases hm
  obtain ⟨v, hv, hr⟩ := h.env _ _ (look_mem hl)
  rw [← evalT_get hv] at hr
  exact key _ _ rfl hr
 ·rename_i q' hl
  obtain ⟨u, hu, hr0⟩ := h.env _ _ (look_mem hl)
  have hru : ts[q']? = some u := hr0
  split at hm
  ·rename_i m p hl2
   cases hm
   obtain ⟨v, hv, hr⟩ := h.env _ _ (look_mem hl2)
   rw [hru] at hv; cases hv
   rw [← evalT_get hu] at hr
   exact key _ _ rfl hr
  ·rename_i s xs hl2
   cases hm
   obtain ⟨v, hv, hr⟩ := h.env _ _ (look_mem hl2)
   rw [hru] at hv; cases hv
   rw [← evalT_get hu] at hr
   exact key _ _ rfl hr
  ·cases hm
 ·cases hm
theorem opj_assign_mov {o : Oper} {d r q : Nat} {it : It} (hop : o.op = .assign (.tmp r)) (hd : o.dst = some d) (hN : d < N) (hm : movOf st.env r = some (q, it)) : OpJ P N o st (setE' st d [.sl q] it) := by
 have hp : Oper.plain o := by intro c hc; rw [hop] at hc; cases hc
 by_cases hbase : it.base = none
 ·refine OpJ.turn hp hd hN hbase (by simp) (by simp) (by simp) (by simp) (by simp) ?_
  intro w ow φ ts hr
  obtain ⟨h1, h2, h3⟩ := movOf_sound hr hm
  refine ⟨evalT ts (.tmp r), w, owTo ow (.sl q) (.sl d), by simp [execOp, hop], Keep.relab w ow _ _ (by simp), bnd_relab hr.bnd (by simp), fun ts' => ?_⟩
  have h1' := h1
  cases it with
  | v m p => exact Own.relab (by simp) h1'
  | ap s xs =>
   rcases h1' with ho | ⟨a, hv, hrd⟩
   ·exact .inl (Own.relab (by simp) ho)
   ·exact .inr ⟨a, hv, RD.mono (fun _ _ => rfl) (fun b => owTo_fz (by simp) b) 0 _ _ [] (by simp) hrd⟩
  | nils => exact h1'
  | tup ps =>
   unfold movOf at hm
   split at hm
   ·cases hm
   ·cases hm
   ·split at hm <;> cases hm
   ·cases hm
  | b p => simp [It.base] at hbase; cases p <;> simp [Pl.base] at hbase <;> (unfold movOf at hm; split at hm <;> first | cases hm | (split at hm <;> cases hm))
  | bc p s lo n => unfold movOf at hm; split at hm <;> first | cases hm | (split at hm <;> cases hm)
  | be p s i o' => unfold movOf at hm; split at hm <;> first | cases hm | (split at hm <;> cases hm)
  | fa cs => unfold movOf at hm; split at hm <;> first | cases hm | (split at hm <;> cases hm)
  | kb b => exact h1'
  | pi o' off => exact h1'
  | nn s xs => unfold movOf at hm; split at hm <;> first | cases hm | (split at hm <;> cases hm)
 ·exfalso
  unfold movOf at hm
  split at hm
  ·cases hm; exact hbase rfl
  ·cases hm; exact hbase rfl
  ·split at hm
   ·cases hm; exact hbase rfl
   ·cases hm; exact hbase rfl
   ·cases hm
  ·cases hm
end


section
variable {P : Program} {T : Tab} {N : Nat} {st : St}
theorem run_storeVar {w : World} {t : TypeId} {ti : TI} (ht : tiOf P t = some ti) {b o : Nat} {v : Value} {c : Array Value} {e : TypeId} (hh : w.heap[b]? = some (.cells c e (0, 0))) (hs : v.cells.size = ti.size) (h1 : ∀ u ∈ v.cells.toList, u.oneCell' = true)
  (hf : o + v.cells.size ≤ c.size) : (storeVar t ⟨b, o, none⟩ v).run P w = .ok () (w.setCells b o v.cells.toList) := by
 obtain ⟨inf, d, i1, i2, i3, i4, i5⟩ := tiOf_spec ht
 have hst := run_storeCells_cells (P := P) b o v.cells.toList 0 w (fun j hj => by simp at hj; simp [World.cell?, hh]; omega) (fun j hj => by simp [World.frozen?, hh]) h1
 simp only [Nat.add_zero] at hst
 simp [storeVar, run_size i1, i3, hs, hst]
theorem opj_store_elem (hT : TOK P T) {o : Oper} {t q s i off : Nat} {a x : Operand} {xs : List (List D)} {c cs : List D} {ti : TI} (hop : o.op = .store t a x) (hd : o.dst = none)
  (ht : tab T t = some ti) (ha : opd st.env a = some (.be (.slot q) s i off)) (hq : look st.env q = some (.v 1 (.d (.sl s xs)))) (hc : xs[i]? = some c) (hx : cellsOf (opd st.env x) = some cs) (hs : cs.length = ti.size) (hf : off + cs.length ≤ c.length) :
  OpJ P N o st { st with env := (q, .v 1 (.d (.sl s (xs.set i (setSeg c off cs))))) :: st.env.filter (keeps (some q) [.sl q]) } := by
 intro w ow φ ts hr
 obtain ⟨a', len, cap', hd1, hsp, hv⟩ := opd_rel hr ha
 obtain ⟨u, hu, B, hrp, hnd, hB⟩ := hr.env _ _ (look_mem hq)
 have hqs : ts[q]? = some (.slice (some a') len cap') := hd1
 rw [hqs] at hu; cases hu
 simp only [RP, RD] at hrp
 obtain ⟨hs1, ⟨hbad, _⟩ | ⟨blk, bo, cap, cc, e, B', hve, hcap, hh, hoff, hBe, hrx⟩⟩ := hrp
 ·cases hbad
 ·cases hve
  obtain rfl := RX.zeroB hrx
  subst hBe
  have hlab : ow blk = .sl q := hB blk (by simp)
  obtain ⟨hcl, hrc⟩ := RX.at0 hrx hc
  obtain ⟨x1, x2, x3⟩ := cellsOf_vals hr hx
  have hil : i < xs.length := by
   rcases Nat.lt_or_ge i xs.length with h | h
   ·exact h
   ·rw [List.getElem?_eq_none h] at hc; simp at hc
  have hseg : i * s + off + cs.length ≤ cap' * s := by
   have : (i + 1) * s ≤ cap' * s := Nat.mul_le_mul_right _ (by omega)
   rw [Nat.add_mul] at this; omega
  have hvs : (evalT ts x).cells.size = cs.length := by rw [← x1]; simp
  have hrun := run_storeVar (w := w) (hT _ _ ht) (b := blk) (o := bo + i * s + off) (v := evalT ts x) hh (by rw [hvs, hs]) x2 (by rw [hvs]; omega)
  obtain ⟨g1, g2, g3, g4, g5, c', g6, g7, g8, g9⟩ := setCells_heap (b := blk) (evalT ts x).cells.toList (bo + i * s + off) w cc hh
  have hex : (execOp (evalT ts) o).run P w = .ok .skip (w.setCells blk (bo + i * s + off) (evalT ts x).cells.toList) := by
   simp [execOp, hop, hv, Instr.storeAt, Instr.sureAddr, hrun]
  generalize hW : w.setCells blk (bo + i * s + off) (evalT ts x).cells.toList = W at g1 g2 g3 g4 g5 g6 hex
  have hk : Keep [.sl q] w ow W ow := by
   refine ⟨g1, g2, g3, by rw [g4]; exact Nat.le_refl _, fun b _ h => ⟨g5 b (by rintro rfl; rw [h] at hlab; cases hlab), h⟩, fun b h1 h2 => ⟨g5 b (by rintro rfl; exact h2 (by simp [hlab])), rfl⟩⟩
  have hfz : ∀ b, Fz ow b → W.heap[b]? = w.heap[b]? := fun b hb => g5 b (by rintro rfl; rw [show ow b = .frz from hb] at hlab; cases hlab)
  have hwp : o.dst = none := hd
  refine ⟨W, ow, φ, undef, ?_, hk.mods (by simp), fun _ _ => rfl, OpTo.skip (by intro c hc; rw [hop] at hc; cases hc) hex⟩
  rw [hd]
  have := Rel.step (S := [.sl q]) (d := none) (v := undef) (new := [(q, .v 1 (.d (.sl s (xs.set i (setSeg c off cs)))))]) (objs' := st.objs) (φ' := φ) hr hk (by simp) (by simp) (by simp) (fun _ _ => rfl) (Nat.le_refl _) ?_ ?_ (fun b hb => by rw [g4]; exact hr.bnd b hb)
  ·-- the filter by slot is no weaker
   refine ⟨this.tsz, fun t it hm => ?_, this.objs, this.ext, this.bnd, this.marks⟩
   rcases List.mem_cons.1 hm with hm | hm
   ·exact this.env t it (by rw [hm]; simp)
   ·obtain ⟨h1, h2⟩ := List.mem_filter.1 hm
    refine this.env t it (List.mem_append.2 (.inr (List.mem_filter.2 ⟨h1, ?_⟩)))
    simp only [keeps, Bool.and_eq_true, bne_iff_ne, ne_eq, Bool.or_eq_true, beq_iff_eq] at h2 ⊢
    refine ⟨⟨by simp, ?_⟩, h2.2⟩
    cases it.base <;> simp
  ·intro e' he
   obtain rfl := List.mem_singleton.1 he
   refine ⟨_, hqs, [blk], ?_, by simp, by simpa using hlab⟩
   simp only [RP, RD]
   refine ⟨hs1, .inr ⟨blk, bo, cap', c', e, [], by simp, by simpa using hcap, g6, by rw [g7]; exact hoff, rfl, RX.of0 fun j y hy => ?_⟩⟩
   rw [List.getElem?_set] at hy
   have memW : ∀ k, mem W blk k = c'[k]? := fun k => by simp [mem, World.cell?, g6]
   have memw : ∀ k, mem w blk k = cc[k]? := fun k => by simp [mem, World.cell?, hh]
   split at hy
   ·rename_i hij
    subst hij
    cases hy
    refine ⟨by rw [setSeg_length hf]; exact hcl, RC.of0 fun k z hz => ?_⟩
    rw [setSeg_get hf] at hz
    rw [memW]
    split at hz
    ·rename_i hk'
     have hrcs := x3 (fun j => (evalT ts x).cells.toList[j]?) 0 (fun j v hj => by simpa using hj)
     obtain ⟨v, hv1, hv2⟩ := RC.at0 hrcs hz
     refine ⟨v, ?_, RD.mono hfz (fun _ h => h) 0 _ _ [] (by simp) hv2⟩
     have := g9 (by simp [hvs]; omega) (k - off) (by simp [hvs]; omega)
     rw [show bo + i * s + off + (k - off) = bo + i * s + k by omega] at this
     rw [this]; simpa using hv1
    ·rename_i hk'
     obtain ⟨v, hv1, hv2⟩ := RC.at0 hrc hz
     refine ⟨v, ?_, RD.mono hfz (fun _ h => h) 0 _ _ [] (by simp) hv2⟩
     have hkl : k < c.length := by
      rcases Nat.lt_or_ge k c.length with h | h
      ·exact h
      ·rw [List.getElem?_eq_none h] at hz; simp at hz
     rw [g8 (bo + i * s + k) (by simp [hvs]; omega), ← memw]
     exact hv1
   ·rename_i hij
    obtain ⟨h1, h2⟩ := RX.at0 hrx hy
    refine ⟨h1, RC.of0 fun k z hz => ?_⟩
    obtain ⟨v, hv1, hv2⟩ := RC.at0 h2 hz
    refine ⟨v, ?_, RD.mono hfz (fun _ h => h) 0 _ _ [] (by simp) hv2⟩
    have hkl : k < y.length := by
     rcases Nat.lt_or_ge k y.length with h | h
     ·exact h
     ·rw [List.getElem?_eq_none h] at hz; simp at hz
    have hout : bo + j * s + k < bo + i * s + off ∨ bo + i * s + off + cs.length ≤ bo + j * s + k := by
     rcases Nat.lt_or_ge j i with h | h
     ·left
      have : (j + 1) * s ≤ i * s := Nat.mul_le_mul_right _ h
      rw [Nat.add_mul] at this; omega
     ·right
      have : (i + 1) * s ≤ j * s := Nat.mul_le_mul_right _ (by omega)
      rw [Nat.add_mul] at this; omega
    rw [memW, g8 (bo + j * s + k) (by simp [hvs]; omega), ← memw]
    exact hv1
  ·intro i' cs' hc'
   exact .inl ⟨cs', hc', rfl, by simp, fun j m p _ => .inr (by simp)⟩
end


def boxOf : Option It → Option (List (Nat × PV))
 | some (.v 0 (.agg cs)) => some (cs.map fun c => (0, .d c))
 | some (.v 0 p) => some [(0, p)]
 | some (.kb b) => some [(0, .d (.bool b))]
 | _ => none
theorem RP.oneCell {w : World} {Z : Nat → Prop} {φ : Nat → Nat} {n m : Nat} {p : PV} {v : Value} {B : List Nat} (hp : ∀ cs, p ≠ .agg cs) (h : RP w Z φ n m p v B) : v.oneCell' = true := by
 cases p with
 | d x => simp only [RP] at h; exact RD.noAgg h
 | agg cs => exact absurd rfl (hp cs)
 | ptr o off => simp only [RP] at h; rw [h.1]; rfl
 | nilp => simp only [RP] at h; rw [h.1]; rfl
 | fn f cap => simp only [RP] at h; obtain ⟨vs, hv, _⟩ := h; rw [hv]; rfl
 | nilfn => simp only [RP] at h; rw [h.1]; rfl
 | yl l => simp only [RP] at h; rw [h.1]; rfl
 | fp cs => simp only [RP] at h; obtain ⟨b, off, hv, _⟩ := h; rw [hv]; rfl
 | mf f cs => simp only [RP] at h; obtain ⟨vs, hv, _⟩ := h; rw [hv]; rfl
theorem oneCell_ne {v : Value} (h : v.oneCell' = true) : (∀ x, v ≠ .agg x) ∧ (∀ x, v ≠ .tuple x) := by
 cases v <;> simp [Value.oneCell'] at h ⊢
theorem oneCell_cells {v : Value} (h : v.oneCell' = true) : v.cells = #[v] := by
 cases v <;> simp [Value.oneCell'] at h <;> rfl
theorem boxOf_vals {N : Nat} {w : World} {ow : Nat → Lab} {φ : Nat → Nat} {ts : Array Value} {st : St} (h : Rel N w ow φ ts st) {x : Operand} {cs : List (Nat × PV)} (hx : boxOf (opd st.env x) = some cs) :
  (evalT ts x).cells.size = cs.length ∧ ∀ (j m : Nat) (p : PV), cs[j]? = some (m, p) → ∃ v, (evalT ts x).cells[j]? = some v ∧ v.oneCell' = true ∧ m = 0 ∧ RP w (Fz ow) φ st.objs.length 0 p v [] := by
 unfold boxOf at hx
 split at hx
 ·rename_i ds ho
  cases hx
  have hc : cellsOf (opd st.env x) = some ds := by rw [ho]; rfl
  obtain ⟨c1, c2, c3⟩ := cellsOf_vals h hc
  refine ⟨by simpa using c1, fun j m p hj => ?_⟩
  simp only [List.getElem?_map, Option.map_eq_some_iff] at hj
  obtain ⟨dj, h1, h2⟩ := hj
  cases h2
  have := c3 (fun j => (evalT ts x).cells.toList[j]?) 0 (fun j v hj => by simpa using hj)
  obtain ⟨v, hv1, hv2⟩ := RC.at0 this h1
  simp only [Nat.zero_add] at hv1
  exact ⟨v, by rw [← Array.getElem?_toList]; exact hv1, RD.noAgg hv2, rfl, by simpa only [RP] using hv2⟩
 ·rename_i p hp ho
  cases hx
  obtain ⟨B, hr, _, _⟩ := opd_rel h ho
  obtain rfl := RP.zeroB hr
  have h1 := RP.oneCell (fun cs e => hp cs (by rw [e])) hr
  rw [oneCell_cells h1]
  refine ⟨rfl, fun j m q hj => ?_⟩
  cases j with
  | zero => simp at hj; obtain ⟨rfl, rfl⟩ := hj; exact ⟨_, rfl, h1, rfl, hr⟩
  | succ j => simp at hj
 ·rename_i b ho
  cases hx
  have hv : evalT ts x = .bool b := opd_rel h ho
  rw [hv]
  refine ⟨rfl, fun j m q hj => ?_⟩
  cases j with
  | zero => simp at hj; obtain ⟨rfl, rfl⟩ := hj; exact ⟨.bool b, rfl, rfl, rfl, by simp [RP, RD]⟩
  | succ j => simp at hj
 ·cases hx
def zok : List Value → List PV → Bool
 | [], [] => true
 | .int k n :: vs, .d (.int k' n') :: ps => k == k' && n == n' && zok vs ps
 | .bool b :: vs, .d (.bool b') :: ps => b == b' && zok vs ps
 | .string s :: vs, .d (.str s') :: ps => s.data == s'.data && zok vs ps
 | .slice none 0 0 :: vs, .d (.sl (_ + 1) []) :: ps => zok vs ps
 | .slice none 0 0 :: vs, .d (.nl (_ + 1)) :: ps => zok vs ps
 | .pointer none :: vs, .nilp :: ps => zok vs ps
 | .nilFunc :: vs, .nilfn :: ps => zok vs ps
 | _, _ => false
theorem zok_spec {w : World} {Z : Nat → Prop} {φ : Nat → Nat} {n : Nat} : ∀ {vs : List Value} {ps : List PV}, zok vs ps = true → vs.length = ps.length ∧ ∀ (j : Nat) (p : PV), ps[j]? = some p → ∃ v, vs[j]? = some v ∧ v.oneCell' = true ∧ RP w Z φ n 0 p v [] := by
 intro vs ps h
 fun_induction zok vs ps with
 | case1 => simp
 | case2 k a vs k' a' ps ih =>
  simp only [Bool.and_eq_true, beq_iff_eq] at h
  obtain ⟨⟨rfl, rfl⟩, h⟩ := h
  obtain ⟨h1, h2⟩ := ih h
  refine ⟨by simp [h1], fun j p hj => ?_⟩
  cases j with
  | zero => simp at hj; subst hj; exact ⟨_, rfl, rfl, by simp [RP, RD]⟩
  | succ j => simpa using h2 j p (by simpa using hj)
 | case3 b vs b' ps ih =>
  simp only [Bool.and_eq_true, beq_iff_eq] at h
  obtain ⟨rfl, h⟩ := h
  obtain ⟨h1, h2⟩ := ih h
  refine ⟨by simp [h1], fun j p hj => ?_⟩
  cases j with
  | zero => simp at hj; subst hj; exact ⟨_, rfl, rfl, by simp [RP, RD]⟩
  | succ j => simpa using h2 j p (by simpa using hj)
 | case4 s vs s' ps ih =>
  simp only [Bool.and_eq_true, beq_iff_eq] at h
  obtain ⟨hs, h⟩ := h
  obtain ⟨s⟩ := s
  obtain ⟨s'⟩ := s'
  simp only at hs; subst hs
  obtain ⟨h1, h2⟩ := ih h
  refine ⟨by simp [h1], fun j p hj => ?_⟩
  cases j with
  | zero => simp at hj; subst hj; exact ⟨_, rfl, rfl, by simp [RP, RD]⟩
  | succ j => simpa using h2 j p (by simpa using hj)
 | case5 vs k ps ih =>
  obtain ⟨h1, h2⟩ := ih h
  refine ⟨by simp [h1], fun j p hj => ?_⟩
  cases j with
  | zero => simp at hj; subst hj; exact ⟨_, rfl, rfl, by simp only [RP, RD]; exact ⟨trivial, by omega, none, 0, rfl, by simp, by simp, by simp, by simp⟩⟩
  | succ j => simpa using h2 j p (by simpa using hj)
 | case6 vs k ps ih =>
  obtain ⟨h1, h2⟩ := ih h
  refine ⟨by simp [h1], fun j p hj => ?_⟩
  cases j with
  | zero => simp at hj; subst hj; exact ⟨_, rfl, rfl, by simp [RP, RD]⟩
  | succ j => simpa using h2 j p (by simpa using hj)
 | case7 vs ps ih =>
  obtain ⟨h1, h2⟩ := ih h
  refine ⟨by simp [h1], fun j p hj => ?_⟩
  cases j with
  | zero => simp at hj; subst hj; exact ⟨_, rfl, rfl, by simp [RP]⟩
  | succ j => simpa using h2 j p (by simpa using hj)
 | case8 vs ps ih =>
  obtain ⟨h1, h2⟩ := ih h
  refine ⟨by simp [h1], fun j p hj => ?_⟩
  cases j with
  | zero => simp at hj; subst hj; exact ⟨_, rfl, rfl, by simp [RP]⟩
  | succ j => simpa using h2 j p (by simpa using hj)
 | case9 => simp at h
def ZeroOK (P : Program) (t : TypeId) (ps : List PV) : Prop := ∃ inf z, P.info? t = some inf ∧ inf.zero = some z ∧ zok z.cells.toList ps = true
section
variable {P : Program} {T : Tab} {N : Nat} {st : St}
theorem opj_newObj {o : Oper} {d : Nat} {cs : List (Nat × PV)} (hp : Oper.plain o) (hd : o.dst = some d) (hN : d < N)
  (h : ∀ w ow φ ts, Rel N w ow φ ts st → ∃ vs e, (execOp (evalT ts) o).run P w = .ok (.value (.pointer (some ⟨w.heap.size, 0, none⟩))) (w.alloc (.cells vs e)) ∧ vs.size = cs.length ∧
   ∀ (j m : Nat) (p : PV), cs[j]? = some (m, p) → ∃ v, vs[j]? = some v ∧ v.oneCell' = true ∧ m = 0 ∧ RP w (Fz ow) φ st.objs.length 0 p v []) :
  OpJ P N o st { st with env := (d, .v 0 (.ptr st.objs.length 0)) :: st.env.filter (keeps (some d) []), objs := st.objs ++ [cs] } := by
 intro w ow φ ts hr
 obtain ⟨vs, e, hrun, hsz, hvs⟩ := h w ow φ ts hr
 have hk := Keep.alloc (w := w) (ow := ow) hr.bnd (.cells vs e) (.bx st.objs.length)
 let φ' : Nat → Nat := fun i => if i = st.objs.length then w.heap.size else φ i
 have hφ : ∀ i, i < st.objs.length → φ' i = φ i := fun i hi => by simp only [φ']; rw [if_neg (by omega)]
 have hφn : φ' st.objs.length = w.heap.size := by simp [φ']
 refine ⟨_, _, φ', _, ?_, hk.mods (by simp), hφ, OpTo.value hp hrun⟩
 rw [hd]
 refine Rel.step (S := []) (new := [(d, _)]) hr hk (by simp) (by simp) (by simp) hφ (by simp) ?_ ?_ (bnd_alloc hr.bnd _ _)
 ·intro e' he
  obtain rfl := List.mem_singleton.1 he
  refine ⟨_, putO_same (by rw [hr.tsz]; exact hN), own0 ?_⟩
  simp only [RP, hφn]
  exact ⟨trivial, by simp, trivial⟩
 ·intro i cs' hc
  rcases Nat.lt_or_ge i st.objs.length with hi | hi
  ·rw [List.getElem?_append_left hi] at hc
   exact .inl ⟨cs', hc, rfl, by simp, fun j m p _ => .inr (by simp)⟩
  ·rw [List.getElem?_append_right hi] at hc
   have hi0 : i - st.objs.length = 0 := by
    rcases Nat.eq_zero_or_pos (i - st.objs.length) with h | h
    ·exact h
    ·rw [List.getElem?_eq_none (by simp; omega)] at hc; simp at hc
   have hie : i = st.objs.length := by omega
   subst hie
   simp at hc; subst hc
   refine .inr ⟨vs, e, by rw [hφn]; exact heap_alloc_new' w _, hsz, by rw [hφn]; simp [owNew], fun j m p hj => ?_⟩
   obtain ⟨v, h1, h2, rfl, h3⟩ := hvs j m p hj
   obtain ⟨z1, z2⟩ := hk.z (by simp)
   exact ⟨v, h1, (oneCell_ne h2).1, (oneCell_ne h2).2, own0 (RP.mono z1 z2 hφ (by simp) 0 p v [] (by simp) h3)⟩
theorem opj_box {o : Oper} {d t : Nat} {x : Operand} {cs : List (Nat × PV)} (hop : o.op = .box t x) (hd : o.dst = some d) (hN : d < N) (hx : boxOf (opd st.env x) = some cs) :
  OpJ P N o st { st with env := (d, .v 0 (.ptr st.objs.length 0)) :: st.env.filter (keeps (some d) []), objs := st.objs ++ [cs] } := by
 refine opj_newObj (by intro c hc; rw [hop] at hc; cases hc) hd hN fun w ow φ ts hr => ?_
 obtain ⟨h1, h2⟩ := boxOf_vals hr hx
 exact ⟨(evalT ts x).cells, t, by simp [execOp, hop, Instr.box, newVar, newRow], h1, h2⟩
theorem opj_alloc {o : Oper} {d t : Nat} {ps : List PV} (hop : o.op = .alloc t) (hd : o.dst = some d) (hN : d < N) (hz : ZeroOK P t ps) :
  OpJ P N o st { st with env := (d, .v 0 (.ptr st.objs.length 0)) :: st.env.filter (keeps (some d) []), objs := st.objs ++ [ps.map fun p => (0, p)] } := by
 refine opj_newObj (by intro c hc; rw [hop] at hc; cases hc) hd hN fun w ow φ ts hr => ?_
 obtain ⟨inf, z, h1, h2, h3⟩ := hz
 obtain ⟨h4, h5⟩ := zok_spec (w := w) (Z := Fz ow) (φ := φ) (n := st.objs.length) h3
 refine ⟨z.cells, t, by simp [execOp, hop, Instr.alloc, zeroValue, typeInfo, h1, h2, newVar, newRow], by simpa using h4, fun j m p hj => ?_⟩
 simp only [List.getElem?_map, Option.map_eq_some_iff] at hj
 obtain ⟨p', h6, h7⟩ := hj
 obtain ⟨rfl, rfl⟩ := Prod.mk.inj h7
 obtain ⟨v, h8, h9, h10⟩ := h5 j _ h6
 exact ⟨v, by rw [← Array.getElem?_toList]; exact h8, h9, rfl, h10⟩
theorem opj_store_obj (hT : TOK P T) {o : Oper} {t i off : Nat} {a x : Operand} {cs vs : List (Nat × PV)} {ti : TI} (hop : o.op = .store t a x) (hd : o.dst = none)
  (ht : tab T t = some ti) (ha : opd st.env a = some (.v 0 (.ptr i off)) ∨ opd st.env a = some (.pi i off)) (hc : st.objs[i]? = some cs) (hx : boxOf (opd st.env x) = some vs) (hs : vs.length = ti.size) (hf : off + vs.length ≤ cs.length) :
  OpJ P N o st { st with env := st.env.filter (keeps none [.bx i]), objs := st.objs.set i (setSeg cs off vs) } := by
 intro w ow φ ts hr
 have hav : evalT ts a = .pointer (some ⟨φ i, off, none⟩) ∧ i < st.objs.length := by
  rcases ha with ha | ha
  ·obtain ⟨B, h, _, _⟩ := opd_rel hr ha
   simp only [RP] at h
   exact ⟨h.1, h.2.1⟩
  ·obtain ⟨h1, h2⟩ := opd_rel hr ha
   exact ⟨h1, h2⟩
 obtain ⟨hav, hil⟩ := hav
 obtain ⟨c, e, hh, hsz, hlab, hcs⟩ := hr.objs i cs hc
 obtain ⟨x1, x2⟩ := boxOf_vals hr hx
 have h1c : ∀ u ∈ (evalT ts x).cells.toList, u.oneCell' = true := by
  intro u hu
  obtain ⟨j, hj⟩ := List.getElem?_of_mem hu
  have hjl : j < vs.length := by
   rcases Nat.lt_or_ge j vs.length with h | h
   ·exact h
   ·rw [List.getElem?_eq_none (by simp [x1]; omega)] at hj; simp at hj
  obtain ⟨v, h1, h2, _, _⟩ := x2 j (vs[j]'hjl).1 (vs[j]'hjl).2 (by simp [hjl])
  rw [← Array.getElem?_toList, hj] at h1
  cases h1; exact h2
 have hrun := run_storeVar (w := w) (hT _ _ ht) (b := φ i) (o := off) (v := evalT ts x) hh (by rw [x1, hs]) h1c (by rw [x1, hsz]; exact hf)
 obtain ⟨g1, g2, g3, g4, g5, c', g6, g7, g8, g9⟩ := setCells_heap (b := φ i) (evalT ts x).cells.toList off w c hh
 have hex : (execOp (evalT ts) o).run P w = .ok .skip (w.setCells (φ i) off (evalT ts x).cells.toList) := by
  simp [execOp, hop, hav, Instr.storeAt, Instr.sureAddr, hrun]
 generalize hW : w.setCells (φ i) off (evalT ts x).cells.toList = W at g1 g2 g3 g4 g5 g6 hex
 have hk : Keep [.bx i] w ow W ow :=
  ⟨g1, g2, g3, by rw [g4]; exact Nat.le_refl _, fun b _ h => ⟨g5 b (by rintro rfl; rw [h] at hlab; cases hlab), h⟩, fun b h1 h2 => ⟨g5 b (by rintro rfl; exact h2 (by simp [hlab])), rfl⟩⟩
 refine ⟨W, ow, φ, undef, ?_, hk.mods (by simp), fun _ _ => rfl, OpTo.skip (by intro c hc; rw [hop] at hc; cases hc) hex⟩
 rw [hd]
 refine Rel.step (S := [.bx i]) (d := none) (v := undef) (new := []) (φ' := φ) hr hk (by simp) (by simp) (by simp) (fun _ _ => rfl) (by simp) (by simp) ?_ (fun b hb => by rw [g4]; exact hr.bnd b hb)
 intro k cs' hc'
 rw [List.getElem?_set] at hc'
 split at hc'
 ·rename_i hik
  subst hik
  cases hc'
  refine .inr ⟨c', e, g6, by rw [g7, hsz, setSeg_length hf], hlab, fun j m p hj => ?_⟩
  obtain ⟨z1, z2⟩ := hk.z (by simp)
  rw [setSeg_get hf] at hj
  split at hj
  ·rename_i hjr
   obtain ⟨v, h1, h2, rfl, h3⟩ := x2 _ m p hj
   have := g9 (by rw [hsz]; simpa [x1] using hf) (j - off) (by simp [x1]; omega)
   rw [show off + (j - off) = j by omega] at this
   exact ⟨v, by rw [this, Array.getElem?_toList]; exact h1, (oneCell_ne h2).1, (oneCell_ne h2).2, own0 (RP.mono z1 z2 (fun _ _ => rfl) (by simp) 0 p v [] (by simp) h3)⟩
  ·rename_i hjr
   obtain ⟨v, h1, h2, h3, h4⟩ := hcs j m p hj
   exact ⟨v, by rw [g8 j (by simp [x1]; omega)]; exact h1, h2, h3, Own.mono hk (by simp) (fun _ _ => rfl) (by simp) (.inr (by simp)) (by simp) h4⟩
 ·rename_i hik
  exact .inl ⟨cs', hc', rfl, by simp; exact fun e => hik e.symm, fun j m p _ => .inr (by simp)⟩
end


def dfOf (marks : List Nat) : List Deferred := marks.map fun r => { target := .collected r, args := #[] }
def OpsJ (P : Program) (N : Nat) (ops : Array Oper) (l : List Nat) (st st' : St) : Prop :=
 ∀ w ow φ ts, Rel N w ow φ ts st → ∃ w' ow' φ' ts', Rel N w' ow' φ' ts' st' ∧ Mods w ow w' ow' ∧ (∀ i, i < st.objs.length → φ' i = φ i) ∧ st.objs.length ≤ st'.objs.length ∧
  st'.marks = st.marks ∧ ∀ (b : Frame) (df : List Deferred) (k : List Item) (cs : List Frame), Steps P (lone (b.atR ⟨ts, df⟩ (.inRegion ops l :: k)) cs w) (lone (b.atR ⟨ts', df⟩ (.inRegion ops [] :: k)) cs w')
def Conv (st st' : St) : Prop :=
 ∀ N w ow φ ts, Rel N w ow φ ts st → ∃ ow' φ', Rel N w ow' φ' ts st' ∧ Mods w ow w ow' ∧ (∀ i, i < st.objs.length → φ' i = φ i) ∧ st.objs.length ≤ st'.objs.length ∧ st'.marks = st.marks
section
variable {P : Program} {N : Nat}
theorem Conv.refl (st : St) : Conv st st := fun N w ow φ ts h => ⟨ow, φ, h, Mods.refl _ _, fun _ _ => rfl, Nat.le_refl _, rfl⟩
theorem Conv.trans {a b c : St} (h : Conv a b) (h' : Conv b c) : Conv a c := by
 intro N w ow φ ts hr
 obtain ⟨ow1, φ1, r1, m1, p1, n1, k1⟩ := h N w ow φ ts hr
 obtain ⟨ow2, φ2, r2, m2, p2, n2, k2⟩ := h' N w ow1 φ1 ts r1
 exact ⟨ow2, φ2, r2, m1.trans m2, fun i hi => by rw [p2 i (by omega), p1 i hi], Nat.le_trans n1 n2, k2.trans k1⟩
theorem OpsJ.nil {ops : Array Oper} {st : St} : OpsJ P N ops [] st st :=
 fun w ow φ ts hr => ⟨w, ow, φ, ts, hr, Mods.refl _ _, fun _ _ => rfl, Nat.le_refl _, rfl, fun _ _ _ _ => .refl _ _⟩
def wants (ops : Array Oper) (env : Env) (o : Oper) : Option Bool :=
 match o.guard with
 | none => some true
 | some (j, want) => match ops[j]? with
  | some oj => match oj.dst with
   | some d => match look env d with
    | some (.kb b) => some (b == want)
    | some (.tup _) => some false
    | _ => none
   | none => none
  | none => none
theorem wants_sound {ops : Array Oper} {w : World} {ow : Nat → Lab} {φ : Nat → Nat} {ts : Array Value} {st : St} (h : Rel N w ow φ ts st) {o : Oper} {r : Bool} (hw : wants ops st.env o = some r) : Region.wanted o (yielded ops ts) = r := by
 unfold wants at hw
 unfold Region.wanted
 split at hw
 ·rename_i hg
  cases hw
  rw [hg]
 ·rename_i j want hg
  rw [hg]
  split at hw
  ·rename_i oj hj
   split at hw
   ·rename_i d hd
    split at hw
    ·rename_i b hb
     cases hw
     obtain ⟨v, hv, hr⟩ := h.env _ _ (look_mem hb)
     simp only [RV] at hr
     subst hr
     simp only [yielded, hj, Option.bind_some, hd, hv]
     cases b <;> cases want <;> rfl
    ·rename_i ps hb
     cases hw
     obtain ⟨v, hv, vs, B, hr, _⟩ := h.env _ _ (look_mem hb)
     subst hr
     simp only [yielded, hj, Option.bind_some, hd, hv]
     rfl
    ·cases hw
   ·cases hw
  ·cases hw
theorem OpsJ.go {ops : Array Oper} {i : Nat} {l : List Nat} {o : Oper} {st st1 st2 : St} (ho : ops[i]? = some o) (hw : wants ops st.env o = some true) (h1 : OpJ P N o st st1) (hn : st.objs.length ≤ st1.objs.length) (hm : st1.marks = st.marks) (h2 : OpsJ P N ops l st1 st2) : OpsJ P N ops (i :: l) st st2 := by
 intro w ow φ ts hr
 obtain ⟨w1, ow1, φ1, v, r1, m1, p1, to⟩ := h1 w ow φ ts hr
 obtain ⟨w2, ow2, φ2, ts2, r2, m2, p2, n2, k2, s2⟩ := h2 w1 ow1 φ1 _ r1
 refine ⟨w2, ow2, φ2, ts2, r2, m1.trans m2, fun i hi => by rw [p2 i (by omega), p1 i hi], Nat.le_trans hn n2, k2.trans hm, fun b df k cs => ?_⟩
 exact (to b _ cs ops i l k ho (wants_sound hr hw)).trans (s2 b df k cs)
theorem OpsJ.skip {ops : Array Oper} {i : Nat} {l : List Nat} {o : Oper} {st st2 : St} {d : Nat} (ho : ops[i]? = some o) (hd : o.dst = some d) (hw : wants ops st.env o = some false)
  (hN : d < N) (h2 : OpsJ P N ops l { st with env := (d, .tup []) :: st.env.filter (keeps (some d) []) } st2) : OpsJ P N ops (i :: l) st st2 := by
 intro w ow φ ts hr
 have r1 : Rel N w ow φ (putO ts (some d) undef) { st with env := (d, .tup []) :: st.env.filter (keeps (some d) []) } :=
  Rel.step (S := []) (new := [(d, .tup [])]) (d := some d) hr (Keep.refl w ow) (by simp) (by simp) (by simp) (fun _ _ => rfl) (Nat.le_refl _) (fun e he => by
   obtain rfl := List.mem_singleton.1 he
   exact ⟨undef, putO_same (by rw [hr.tsz]; exact hN), #[], [], rfl, ⟨rfl, rfl⟩, by simp, by simp⟩) (fun i cs hc => .inl ⟨cs, hc, rfl, by simp, fun j m p _ => .inr (by simp)⟩) hr.bnd
 obtain ⟨w2, ow2, φ2, ts2, r2, m2, p2, n2, k2, s2⟩ := h2 w ow φ _ r1
 refine ⟨w2, ow2, φ2, ts2, r2, m2, p2, n2, k2, fun b df k cs => .head ?_ (s2 b df k cs)⟩
 have := stepR_op_skip (P := P) (b := b) (a := ⟨ts, df⟩) (k := k) (cs := cs) (w := w) (ops := ops) (i := i) (rest := l) (by simp [ho, wants_sound hr hw])
 rw [this, ho]
 simp only [Option.bind_some, hd, put_eq]
theorem OpsJ.conv {ops : Array Oper} {l : List Nat} {st st1 st2 : St} (h : Conv st st1) (h2 : OpsJ P N ops l st1 st2) : OpsJ P N ops l st st2 := by
 intro w ow φ ts hr
 obtain ⟨ow1, φ1, r1, m1, p1, n1, k1⟩ := h N w ow φ ts hr
 obtain ⟨w2, ow2, φ2, ts2, r2, m2, p2, n2, k2, s2⟩ := h2 w ow1 φ1 ts r1
 refine ⟨w2, ow2, φ2, ts2, r2, m1.trans m2, fun i hi => by rw [p2 i (by omega), p1 i hi], Nat.le_trans n1 n2, k2.trans k1, fun b df k cs => s2 b df k cs⟩
end

end Go.Ev
