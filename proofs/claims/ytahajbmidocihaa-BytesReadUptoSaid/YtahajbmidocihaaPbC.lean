/- Plain laws of the printed functions of this seat. Conditions: none beyond each theorem's own. -/
import Derived.Test.YtahajbmidocihaaPbB
set_option linter.unusedVariables false
set_option linter.unusedSimpArgs false
namespace Go.Ev

/-! The reference's reader beside the program's. -/
structure Both (r : S62) (w : S52) : Prop where
  made : r.made = true
  e : r.e_ = w.E
  b0 : w.E = 0 → w.B = r.b
  b1 : w.E ≠ 0 → w.B = []
  bs : Bs r.b
  len : r.b.length ≤ 1048576

def rFail (r : S62) (e : Int) : S62 := if r.e_ = 0 then ⟨r.b, e, r.made⟩ else r
def wFail (w : S52) (e : Int) : S52 := if w.E = 0 then (if e ≠ 0 then ⟨[], e⟩ else ⟨w.B, e⟩) else ⟨[], w.E⟩
theorem F36_spec (r : S62) (hm : r.made = true) (e : Int) : F36 r e = some (rFail r e) := by
  unfold rFail
  by_cases h : r.e_ = 0
  · rw [F36_0 r hm h, if_pos h]
  · rw [F36_1 r hm h, if_neg h]
theorem F46_spec (w : S52) (e : Int) : F46 w e = some (wFail w e) := by
  unfold F46 wFail
  by_cases h : w.E = 0
  · have : (w.E == 0) = true := by simpa using h
    rw [this, br_true, if_pos h]
    by_cases h2 : e = 0
    · have : (e != 0) = false := by simpa using h2
      rw [this, br_false, if_neg (by simpa using h2)]
    · have : (e != 0) = true := by simpa using h2
      rw [this, br_true, if_pos h2]
  · have e1 : (w.E == 0) = false := by simpa using h
    have e2 : (w.E != 0) = true := by simpa using h
    rw [e1, br_false, e2, br_true, if_neg h]
theorem Both.fail {r : S62} {w : S52} (h : Both r w) (e : Int) : Both (rFail r e) (wFail w e) := by
  have he := h.e
  unfold rFail wFail
  by_cases h0 : w.E = 0
  · rw [if_pos (he.trans h0), if_pos h0]
    by_cases h2 : e = 0
    · rw [if_neg (by simpa using h2)]
      exact ⟨h.made, rfl, fun _ => h.b0 h0, fun hh => absurd h2 hh, h.bs, h.len⟩
    · rw [if_pos h2]
      exact ⟨h.made, rfl, fun hh => absurd hh h2, fun _ => rfl, h.bs, h.len⟩
  · rw [if_neg (by rw [he]; exact h0), if_neg h0]
    exact ⟨h.made, he, fun hh => absurd hh h0, fun _ => rfl, h.bs, h.len⟩

theorem F41_eq (size : Int) : F41 size = some ((clampS size : Nat) : Int) := F41_spec size

theorem F43_spec (k : Nat) {r : S62} {w : S52} (h : Both r w) (size most : Int) (hk : 8 < k) : ∃ w', F43 k w size most = some ((rdNum r size most).1, w') ∧ Both (rdNum r size most).2 w' := by
  have c := clampS_le size
  have he := h.e
  unfold F43 rdNum
  rw [F41_eq, bnd_some']
  by_cases h0 : w.E = 0
  · have e0 : (w.E != 0) = false := by simpa using h0
    have hb := h.b0 h0
    rw [e0, br_false, hb]
    rw [if_neg (by rw [he, h0]; simp)]
    by_cases h1 : r.b.length < clampS size
    · rw [decide_eq_true (by omega), br_true, F46_spec, bnd_some', if_pos h1]
      have := h.fail 30
      unfold rFail at this
      rw [if_pos (he.trans h0)] at this
      exact ⟨_, rfl, this⟩
    · rw [decide_eq_false (by omega), br_false, if_neg h1, req_pos (by simp only [cutOk]; omega)]
      have ec : cut r.b none (some ((clampS size : Nat) : Int)) = r.b.take (clampS size) := by simp [cut]
      rw [ec, F38_spec k _ (h.bs.take _) (by rw [List.length_take]; omega) hk, bnd_some']
      by_cases h2 : valB (r.b.take (clampS size)) > most
      · rw [decide_eq_true h2, br_true, F46_spec, bnd_some', if_pos h2]
        have := h.fail 31
        unfold rFail at this
        rw [if_pos (he.trans h0)] at this
        exact ⟨_, rfl, this⟩
      · rw [decide_eq_false h2, br_false, if_neg h2, req_pos (by simp only [cutOk]; omega)]
        refine ⟨_, rfl, ⟨h.made, h0.symm, fun _ => ?_, fun hh => absurd h0 hh, h.bs.drop _, ?_⟩⟩
        · simp [cut]
        · have := h.len; simp; omega
  · have e0 : (w.E != 0) = true := by simpa using h0
    rw [e0, br_true, if_pos (by rw [he]; exact h0)]
    exact ⟨w, rfl, h⟩

theorem rdNum_bound {r : S62} (size most : Int) (hB : Bs r.b) (hm : 0 ≤ most) : 0 ≤ (rdNum r size most).1 ∧ (rdNum r size most).1 ≤ most := by
  unfold rdNum; split
  · simp [hm]
  · split
    · simp [hm]
    · split
      · simp [hm]
      · exact ⟨(valB_bd (hB.take _)).1, by simp only; omega⟩

theorem F44_spec (k : Nat) {r : S62} {w : S52} (h : Both r w) (most : Int) (hk : 8 < k) : ∃ w', F44 k w most = some ((rdStr r most).1, w') ∧ Both (rdStr r most).2 w' := by
  unfold F44 rdStr
  have e : mxI 0 (mnI most 16777216) = min (max most 0) 16777216 := by
    simp only [mnI, mxI]; split <;> split <;> omega
  rw [e, wu64 (by omega) (by omega)]
  obtain ⟨w1, h1, h2⟩ := F43_spec k h 4 (min (max most 0) 16777216) hk
  obtain ⟨b0, b1⟩ := rdNum_bound (r := r) 4 (min (max most 0) 16777216) h.bs (by omega)
  rw [h1, bnd_some']
  generalize rdNum r 4 (min (max most 0) 16777216) = v at h2 b0 b1
  have he := h2.e
  have hlen := h2.len
  simp only
  rw [w64 (n := v.1) (by omega) (by omega)]
  by_cases h0 : w1.E = 0
  · have e0 : (w1.E == 0) = true := by simpa using h0
    have e1 : (w1.E != 0) = false := by simpa using h0
    have hb := h2.b0 h0
    rw [e0, br_true, hb, if_neg (by rw [he, h0]; simp)]
    by_cases h3 : (v.2.b.length : Int) < v.1
    · rw [decide_eq_true (by omega), br_true, F46_spec, bnd_some', if_pos h3]
      have := h2.fail 30
      have hf : wFail w1 30 = ⟨[], 30⟩ := by unfold wFail; rw [if_pos h0, if_pos (by decide)]
      unfold rFail at this
      rw [if_pos (he.trans h0)] at this
      rw [hf] at this ⊢
      exact ⟨_, rfl, this⟩
    · rw [decide_eq_false (by omega), br_false, e1, br_false, if_neg h3, req_pos (by simp only [cutOk]; omega)]
      rw [req_pos (by simp only [fits, cut, List.length_nil, List.length_take]; omega), req_pos (by simp only [cutOk]; omega)]
      refine ⟨_, rfl, ⟨h2.made, h0.symm, fun _ => ?_, fun hh => absurd h0 hh, h2.bs.drop _, ?_⟩⟩
      · simp [cut]
      · simp; omega
  · have e0 : (w1.E == 0) = false := by simpa using h0
    have e1 : (w1.E != 0) = true := by simpa using h0
    rw [e0, br_false, e1, br_true, if_pos (by rw [he]; exact h0)]
    exact ⟨w1, rfl, h2⟩

theorem F45_1_spec (k : Nat) (x y : Int) (hk : 8 < k) : ∀ (n i : Nat) {r : S62} {w : S52} (W : List Int), i ≤ W.length → W.length - i < n → Both r w → W.length ≤ 1000 →
    ∃ w', F45_1 k x y n (i : Int) w.B w.E W = some (w'.B, w'.E, W.take i ++ (rdWords (W.length - i) r).1) ∧ Both (rdWords (W.length - i) r).2 w'
  | 0, i, r, w, W, _, h, _, _ => by omega
  | n + 1, i, r, w, W, hi, h, hb, hl => by
    rw [F45_1]
    by_cases hlt : i < W.length
    · obtain ⟨w1, h1, h2⟩ := F43_spec k hb 8 18446744073709551615 hk
      have ha : W[i]? = some W[i] := List.getElem?_eq_getElem hlt
      rw [decide_eq_true (by omega), br_true]
      show ∃ w', bnd (F43 k w 8 18446744073709551615) _ = _ ∧ _
      rw [h1, bnd_some', at_nat, ha, bnd_some', Int.toNat_natCast]
      rw [show IntKind.i64.wrap ((i : Int) + 1) = ((i + 1 : Nat) : Int) by rw [w64 (by omega) (by omega)]; simp]
      obtain ⟨w2, h3, h4⟩ := F45_1_spec k x y hk n (i + 1) (W.set i (rdNum r 8 18446744073709551615).1) (by simp; omega) (by simp; omega) h2 (by simpa using hl)
      refine ⟨w2, ?_, ?_⟩
      · simp only at h3 ⊢
        rw [h3]
        simp only [List.length_set]
        have e1 : W.length - i = (W.length - (i + 1)) + 1 := by omega
        rw [e1]
        simp only [rdWords]
        have e2 : (W.set i (rdNum r 8 18446744073709551615).1).take (i + 1) = W.take i ++ [(rdNum r 8 18446744073709551615).1] := by
          rw [List.take_succ_eq_append_getElem (by simpa using hlt), List.take_set_of_le (Nat.le_refl i)]
          simp
        rw [e2]
        simp only [List.append_assoc, List.cons_append, List.nil_append]
      · simp only [List.length_set] at h4
        rw [show W.length - i = (W.length - (i + 1)) + 1 by omega]
        exact h4
    · rw [decide_eq_false (by omega), br_false, show W.length - i = 0 by omega]
      refine ⟨w, ?_, hb⟩
      rw [List.take_of_length_le (by omega)]
      simp [rdWords]

theorem F45_spec (k : Nat) {r : S62} {w : S52} (h : Both r w) (N : Int) (hk : 20000 < k) : ∃ w', F45 k w N = some ((rdSet r N).1, w') ∧ Both (rdSet r N).2 w' := by
  unfold F45 rdSet
  by_cases h1 : N < 0
  · rw [decide_eq_true h1, br_true, F46_spec, bnd_some', if_pos (.inl h1 : N < 0 ∨ N > 8192)]
    exact ⟨_, rfl, h.fail 31⟩
  by_cases h2 : N > 8192
  · rw [decide_eq_false h1, br_false, decide_eq_true h2, br_true, F46_spec, bnd_some', if_pos (.inr h2 : N < 0 ∨ N > 8192)]
    exact ⟨_, rfl, h.fail 31⟩
  rw [decide_eq_false h1, br_false, decide_eq_false h2, br_false, if_neg (by omega)]
  have e1 : Int.tdiv (N + 63) 64 = (N + 63) / 64 := by rw [Int.tdiv_eq_ediv_of_nonneg (by omega)]
  unfold F49
  rw [w64 (n := N + 63) (by omega) (by omega), e1, w64 (n := (N + 63) / 64) (by omega) (by omega), req_pos (by simp only [mkFits]; omega), bnd_some']
  obtain ⟨w1, h3, h4⟩ := F45_1_spec k 0 N (by omega) k 0 (r := r) (w := w) (List.replicate ((N + 63) / 64).toNat 0) (by omega) (by simp; omega) h (by simp; omega)
  simp only [List.take_zero, List.nil_append, Nat.sub_zero, List.length_replicate, Int.cast_ofNat_Int] at h3 h4
  simp only
  rw [h3, bnd_some']
  have hws := Ws_rdWords ((N + 63) / 64).toNat h.bs
  have hwl := rdWords_len ((N + 63) / 64).toNat r
  generalize rdWords ((N + 63) / 64).toNat r = v at h4 hws hwl
  have he := h4.e
  simp only
  by_cases h0 : w1.E = 0
  · have e0 : (w1.E == 0) = true := by simpa using h0
    have e0' : (w1.E != 0) = false := by simpa using h0
    rw [e0, br_true, F31_spec k ⟨N, v.1⟩ hws (by show v.1.length < 1000000000; omega) (by omega) (by show -9223372036854775808 ≤ N; omega), bnd_some']
    rw [if_neg (by rw [he, h0]; simp)]
    by_cases h5 : chkF ⟨N, v.1⟩ = 0
    · have e5 : (chkF ⟨N, v.1⟩ != 0) = false := by simpa using h5
      rw [e5, br_false, if_neg (by simpa using h5), e0', br_false]
      exact ⟨w1, rfl, h4⟩
    · have e5 : (chkF ⟨N, v.1⟩ != 0) = true := by simpa using h5
      rw [e5, br_true, if_pos h5]
      have hf : wFail w1 31 = ⟨[], 31⟩ := by unfold wFail; rw [if_pos h0, if_pos (by decide)]
      have := h4.fail 31
      unfold rFail at this
      rw [if_pos (he.trans h0)] at this
      show ∃ w', bnd (F46 w1 31) _ = _ ∧ _
      rw [F46_spec, bnd_some', hf]
      rw [hf] at this
      exact ⟨_, rfl, this⟩
  · have e0 : (w1.E == 0) = false := by simpa using h0
    have e0' : (w1.E != 0) = true := by simpa using h0
    rw [e0, br_false, e0', br_true, if_pos (by rw [he]; exact h0)]
    exact ⟨w1, rfl, h4⟩

theorem rdStr_len {r : S62} (most : Int) : (rdStr r most).1.length ≤ r.b.length := by
  unfold rdStr
  have := rdNum_len (r := r) 4 (min (max most 0) 16777216)
  simp only
  split
  · simp
  · split
    · simp
    · simp; omega
theorem rdSet_len {r : S62} (N : Int) : (rdSet r N).1.Words.length ≤ 1000 := by
  unfold rdSet
  split
  · simp
  · rename_i h
    have := rdWords_len ((N + 63) / 64).toNat r
    simp only
    split
    · simp
    · split
      · simp
      · simp only; omega

theorem F26_spec (k : Nat) {r : S62} {w : S52} (h : Both r w) (a : S48) (hk : 2000000 < k) : ∃ r' w', F26 k r w a = some (true, r', w') ∧ Both r' w' := by
  unfold F26
  have hl := h.len
  by_cases h0 : a.Do = 0
  · have e0 : (a.Do == 0) = true := by simpa using h0
    obtain ⟨w1, h1, h2⟩ := F43_spec k h a.Size a.Most (by omega)
    rw [e0, br_true, F32_spec k r _ _ h.made h.bs (by omega), bnd_some', h1, bnd_some']
    exact ⟨_, _, by simp only [beq_self_eq_true], h2⟩
  have e0 : (a.Do == 0) = false := by simpa using h0
  rw [e0, br_false]
  by_cases h1 : a.Do = 1
  · have e1 : (a.Do == 1) = true := by simpa using h1
    obtain ⟨w1, h2, h3⟩ := F44_spec k h a.N (by omega)
    have hs := rdStr_len (r := r) a.N
    rw [e1, br_true, F33_spec k r _ h.made h.bs (by omega) (by omega), bnd_some', h2, bnd_some']
    dsimp only
    rw [F12_spec k _ _ (by omega) (by omega), bnd_some', decide_eq_true rfl]
    exact ⟨_, _, rfl, h3⟩
  have e1 : (a.Do == 1) = false := by simpa using h1
  rw [e1, br_false]
  by_cases h2 : a.Do = 2
  · have e2 : (a.Do == 2) = true := by simpa using h2
    obtain ⟨w1, h3, h4⟩ := F45_spec k h a.N (by omega)
    have hs := rdSet_len (r := r) a.N
    rw [e2, br_true, F35_spec k r _ h.made h.bs (by omega), bnd_some', h3, bnd_some']
    dsimp only
    rw [F34_refl k _ (by omega) (by omega), bnd_some']
    exact ⟨_, _, rfl, h4⟩
  · have e2 : (a.Do == 2) = false := by simpa using h2
    rw [e2, br_false, F36_spec r h.made, bnd_some', F46_spec, bnd_some']
    exact ⟨_, _, rfl, h.fail a.E⟩

theorem F28_spec (r : S62) (hm : r.made = true) : F28 r = some (if r.e_ ≠ 0 then 0 else (r.b.length : Int)) := by
  unfold F28
  rw [F27_spec r hm, bnd_some']
  by_cases h : r.e_ = 0
  · have e0 : (r.e_ != 0) = false := by simpa using h
    rw [e0, br_false, if_neg (by simpa using h)]
  · have e0 : (r.e_ != 0) = true := by simpa using h
    rw [e0, br_true, if_pos h]
theorem Both.left {r : S62} {w : S52} (h : Both r w) : F28 r = some (w.B.length : Int) := by
  rw [F28_spec r h.made]
  by_cases h0 : w.E = 0
  · rw [if_neg (by rw [h.e, h0]; simp), h.b0 h0]
  · rw [if_pos (by rw [h.e]; exact h0), h.b1 h0]; rfl
theorem Both.done {r : S62} {w : S52} (h : Both r w) : F29 r = F30 w := by
  rw [F29_spec r h.made]
  unfold F30
  by_cases h0 : w.E = 0
  · have e0 : (w.E == 0) = true := by simpa using h0
    rw [if_neg (by rw [h.e, h0]; simp), e0, br_true, h.b0 h0]
    by_cases h1 : r.b.length > 0
    · rw [if_pos h1, decide_eq_true (by omega), br_true]
    · rw [if_neg h1, decide_eq_false (by omega), br_false, h0]
  · have e0 : (w.E == 0) = false := by simpa using h0
    rw [if_pos (by rw [h.e]; exact h0), e0, br_false, h.e]
theorem F30_some (w : S52) : ∃ x, F30 w = some x := by
  unfold F30
  by_cases h0 : w.E = 0
  · have e0 : (w.E == 0) = true := by simpa using h0
    rw [e0, br_true]
    by_cases h1 : ((w.B.length : Int) > 0)
    · rw [decide_eq_true h1]; exact ⟨_, rfl⟩
    · rw [decide_eq_false h1]; exact ⟨_, rfl⟩
  · have e0 : (w.E == 0) = false := by simpa using h0
    rw [e0]; exact ⟨_, rfl⟩

theorem F5_1_spec (k : Nat) (L : List S48) (hk : 2000000 < k) (hL : L.length ≤ 1048576) : ∀ (n i : Nat) {r : S62} {w : S52}, i ≤ L.length → L.length - i < n → Both r w →
    ∃ r' w', F5_1 k L (L.length : Int) n (i : Int) r.b r.e_ r.made w.B w.E = some (.inr (r'.b, r'.e_, r'.made, w'.B, w'.E)) ∧ Both r' w'
  | 0, i, r, w, _, h, _ => by omega
  | n + 1, i, r, w, hi, h, hb => by
    rw [F5_1]
    by_cases hlt : i < L.length
    · have ha : L[i]? = some L[i] := List.getElem?_eq_getElem hlt
      obtain ⟨r1, w1, h1, h2⟩ := F26_spec k hb L[i] hk
      rw [decide_eq_true (by omega), br_true, at_nat, ha, bnd_some']
      show ∃ r' w', bnd (F26 k r w L[i]) _ = _ ∧ _
      rw [h1, bnd_some']
      show ∃ r' w', br (!true) _ _ = _ ∧ _
      rw [show (!true) = false from rfl, br_false]
      dsimp only
      rw [F27_spec r1 h2.made, bnd_some']
      have e1 : (r1.e_ != w1.E) = false := by simpa using h2.e
      rw [e1, br_false, h2.left, bnd_some']
      have e2 : (((w1.B.length : Int)) != (w1.B.length : Int)) = false := by simp
      obtain ⟨x, hx⟩ := F30_some w1
      rw [e2, br_false, h2.done, hx, bnd_some', bnd_some']
      have e3 : (x != x) = false := by simp
      rw [e3, br_false]
      rw [show IntKind.i64.wrap ((i : Int) + 1) = ((i + 1 : Nat) : Int) by rw [w64 (by omega) (by omega)]; simp]
      exact F5_1_spec k L hk hL n (i + 1) (by omega) (by omega) h2
    · rw [decide_eq_false (by omega), br_false]
      exact ⟨r, w, rfl, hb⟩

theorem bkL_S48 (y : S48) : 1 ≤ bkL (E48 y) := by simp [E48, bkL, bk]
theorem bytesRead (b : List Int) (l : List S48) (hb : ∀ y ∈ b, (IntKind.u8.min ≤ y ∧ y ≤ IntKind.u8.max)) (hl : ∀ y ∈ l, W48 y) (hs : bkX [EL 1 (EI .u8) b, EL 5 E48 l] ≤ 1048576) : ∃ k, F5 k b l = some true := by
  have hB := Bs.min hb
  have hll := bkX_len (E := E48) bkL_S48 l
  have hlen : b.length ≤ 1048576 ∧ l.length ≤ 1048576 := by simp only [bkX, bkL, bk, bkX_EI, EL] at hs; omega
  refine ⟨20000000, ?_⟩
  unfold F5
  rw [F9_spec _ (by omega), bnd_some', Bool.not_true, br_false, F24_spec b (by omega), bnd_some']
  have h25 : F25 b = some ⟨b, 0⟩ := by unfold F25; rfl
  rw [h25, bnd_some']
  have hb0 : Both ⟨b, 0, true⟩ ⟨b, 0⟩ := ⟨rfl, rfl, fun _ => rfl, fun hh => absurd rfl hh, hB, hlen.1⟩
  obtain ⟨r, w, h1, h2⟩ := F5_1_spec 20000000 l (by omega) hlen.2 20000000 0 (by omega) (by omega) hb0
  simp only [Int.cast_ofNat_Int] at h1
  simp only
  rw [h1, bnd_some']
  show bnd (F29 r) (fun v5 => bnd (F30 w) fun v6 => some ((v5 == v6))) = some true
  obtain ⟨x, hx⟩ := F30_some w
  rw [h2.done, hx, bnd_some', bnd_some']
  simp
end Go.Ev
