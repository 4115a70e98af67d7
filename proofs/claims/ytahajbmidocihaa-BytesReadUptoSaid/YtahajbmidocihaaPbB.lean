/- Plain laws of the printed functions of this seat. Conditions: none beyond each theorem's own. -/
import Derived.Test.YtahajbmidocihaaPb
set_option linter.unusedVariables false
set_option linter.unusedSimpArgs false
namespace Go.Ev

/-! The reader. -/
theorem or_add {x : Int} {b : Int} {i : Nat} (x0 : 0 ≤ x) (x1 : x < 256 ^ i) (b0 : 0 ≤ b) (b1 : b < 256) (hi : i < 8) : bitsI .or .u64 x (shlI .u64 b ((8 * i : Nat) : Int)) = x + b * 256 ^ i := by
  have e : (min (Int.toNat ((8 * i : Nat) : Int)) IntKind.u64.bits) = 8 * i := by
    rw [Int.toNat_natCast]; exact Nat.min_eq_left (by show 8 * i ≤ 64; omega)
  obtain ⟨X, rfl⟩ := Int.eq_ofNat_of_zero_le x0
  obtain ⟨c, rfl⟩ := Int.eq_ofNat_of_zero_le b0
  have p1 : ((256 : Int) ^ i) = ((2 ^ (8 * i) : Nat) : Int) := by rw [Nat.pow_mul, Int.natCast_pow]; rfl
  have hX : X < 2 ^ (8 * i) := by rw [p1] at x1; exact Int.ofNat_lt.1 x1
  have hc : c < 256 := by omega
  have hp : 2 ^ (8 * i) ≤ 2 ^ 56 := Nat.pow_le_pow_right (by decide) (by omega)
  have hmul : c * 2 ^ (8 * i) ≤ 255 * 2 ^ 56 := Nat.mul_le_mul (by omega) hp
  have hmul2 : c * 2 ^ (8 * i) + 2 ^ (8 * i) ≤ 2 ^ 64 := by
    have : (c + 1) * 2 ^ (8 * i) ≤ 256 * 2 ^ 56 := Nat.mul_le_mul (by omega) hp
    rw [Nat.add_mul] at this; omega
  simp only [shlI, e]
  have e2 : ((c : Nat) : Int) * 2 ^ (8 * i) = ((c * 2 ^ (8 * i) : Nat) : Int) := by simp
  rw [e2, wu64 (by omega) (by omega), p1]
  simp only [bitsI]
  have f1 : (BitVec.ofInt IntKind.u64.bits ((X : Nat) : Int)).toNat = X := by
    rw [BitVec.toNat_ofInt]
    rw [show ((2 ^ IntKind.u64.bits : Nat) : Int) = 18446744073709551616 from rfl]
    omega
  have f2 : (BitVec.ofInt IntKind.u64.bits ((c * 2 ^ (8 * i) : Nat) : Int)).toNat = c * 2 ^ (8 * i) := by
    rw [BitVec.toNat_ofInt]
    rw [show ((2 ^ IntKind.u64.bits : Nat) : Int) = 18446744073709551616 from rfl]
    omega
  rw [BitVec.toNat_or, f1, f2]
  have g := Nat.two_pow_add_eq_or_of_lt hX c
  rw [Nat.or_comm, Nat.mul_comm c, ← g, Nat.mul_comm]
  rw [wu64 (by omega) (by omega)]
  simp
  omega

theorem valB_snoc (l : List Int) (b : Int) : valB (l ++ [b]) = valB l + b * 256 ^ l.length := by
  induction l with
  | nil => simp [valB]
  | cons a l ih => simp only [List.cons_append, valB, ih, List.length_cons, Int.pow_succ]; rw [Int.mul_add, Int.mul_left_comm 256 b, Int.mul_comm 256 (256 ^ l.length)]; omega

theorem F32_1_spec (k : Nat) (x1 x2 x8 : Int) (s : Nat) (hs : s ≤ 8) (b : List Int) (e : Int) (m : Bool) (hB : Bs b) (hl : s ≤ b.length) : ∀ (n i : Nat), i ≤ s → s - i < n →
    F32_1 k x1 x2 x8 (s : Int) b e m n (valB (b.take i)) (i : Int) = some (valB (b.take s))
  | 0, i, _, h => by omega
  | n + 1, i, hi, h => by
    rw [F32_1]
    by_cases hlt : i < s
    · have : decide ((i : Int) < (s : Int)) = true := by simpa using hlt
      have ha : b[i]? = some b[i] := List.getElem?_eq_getElem (by omega)
      obtain ⟨c0, c1⟩ := hB b[i] (by simp)
      obtain ⟨d0, d1⟩ := valB_bd (hB.take i)
      have hlen : (b.take i).length = i := by rw [List.length_take]; omega
      rw [hlen] at d1
      rw [this, br_true, at_nat, ha, bnd_some', w64 (n := 8 * (i : Int)) (by omega) (by omega), req_pos (by omega), wu64 (n := b[i]) (by omega) (by omega)]
      rw [show (8 * (i : Int)) = ((8 * i : Nat) : Int) by omega, or_add d0 d1 c0 c1 (by omega)]
      rw [show IntKind.i64.wrap ((i : Int) + 1) = ((i + 1 : Nat) : Int) by rw [w64 (by omega) (by omega)]; simp]
      have e1 : valB (b.take i) + b[i] * 256 ^ i = valB (b.take (i + 1)) := by
        rw [List.take_succ_eq_append_getElem (by omega), valB_snoc, hlen]
      rw [e1]
      exact F32_1_spec k x1 x2 x8 s hs b e m hB hl n (i + 1) (by omega) (by omega)
    · have : decide ((i : Int) < (s : Int)) = false := by simpa using hlt
      rw [this, br_false, show i = s by omega]

def rdNum (r : S62) (size most : Int) : Int × S62 :=
  if r.e_ ≠ 0 then (0, r) else if r.b.length < clampS size then (0, ⟨r.b, 30, r.made⟩)
  else if valB (r.b.take (clampS size)) > most then (0, ⟨r.b, 31, r.made⟩) else (valB (r.b.take (clampS size)), ⟨r.b.drop (clampS size), 0, r.made⟩)
theorem F27_spec (r : S62) (hm : r.made = true) : F27 r = some r.e_ := by simp [F27, hm, br]
theorem F36_0 (r : S62) (hm : r.made = true) (h : r.e_ = 0) (e : Int) : F36 r e = some ⟨r.b, e, r.made⟩ := by
  unfold F36; rw [F27_spec r hm, bnd_some', h]; rfl
theorem F36_1 (r : S62) (hm : r.made = true) (h : r.e_ ≠ 0) (e : Int) : F36 r e = some r := by
  unfold F36; rw [F27_spec r hm, bnd_some']
  have : (r.e_ == 0) = false := by simpa using h
  rw [this]; rfl
theorem clampS_pos (size : Int) : 1 ≤ clampS size := by simp only [clampS]; omega
theorem F32_spec (k : Nat) (r : S62) (size most : Int) (hm : r.made = true) (hB : Bs r.b) (hk : 8 < k) : F32 k r size most = some (rdNum r size most) := by
  unfold F32 rdNum
  rw [F40_spec, bnd_some', F27_spec r hm, bnd_some']
  have c := clampS_le size
  by_cases h0 : r.e_ = 0
  · have e0 : (r.e_ != 0) = false := by simpa using h0
    rw [e0, br_false]
    simp only [h0, ne_eq, not_true_eq_false, if_false]
    by_cases h1 : r.b.length < clampS size
    · have e1 : decide ((r.b.length : Int) < ((clampS size : Nat) : Int)) = true := by simpa using h1
      rw [e1, br_true, F36_0 r hm h0, if_pos h1]; rfl
    · have e1 : decide ((r.b.length : Int) < ((clampS size : Nat) : Int)) = false := by simpa using h1
      rw [e1, br_false, if_neg h1]
      have q := F32_1_spec k ((clampS size : Nat) : Int) most 0 (clampS size) c r.b r.e_ r.made hB (by omega) k 0 (by omega) (by omega)
      simp only [List.take_zero, valB, Int.cast_ofNat_Int] at q
      rw [h0] at q
      rw [q, bnd_some']
      by_cases h2 : valB (r.b.take (clampS size)) > most
      · have e2 : decide (valB (r.b.take (clampS size)) > most) = true := by simpa using h2
        rw [e2, br_true, F36_0 r hm h0, if_pos h2]; rfl
      · have e2 : decide (valB (r.b.take (clampS size)) > most) = false := by simpa using h2
        rw [e2, br_false, if_neg h2, req_pos (by simp only [cutOk]; omega), F36_0 (S62.mk _ 0 r.made) hm rfl]
        simp [bnd, cut]
  · have e0 : (r.e_ != 0) = true := by simpa using h0
    rw [e0, br_true, F36_1 r hm h0, if_pos h0]; rfl

theorem rdNum_made {r : S62} (size most : Int) (hm : r.made = true) : (rdNum r size most).2.made = true := by
  unfold rdNum; split
  · exact hm
  · split
    · exact hm
    · split <;> exact hm
theorem rdNum_Bs {r : S62} (size most : Int) (hB : Bs r.b) : Bs (rdNum r size most).2.b := by
  unfold rdNum; split
  · exact hB
  · split
    · exact hB
    · split
      · exact hB
      · exact hB.drop _
theorem rdNum_len {r : S62} (size most : Int) : (rdNum r size most).2.b.length ≤ r.b.length := by
  unfold rdNum; split
  · exact Nat.le_refl _
  · split
    · exact Nat.le_refl _
    · split
      · exact Nat.le_refl _
      · simp

/-- What was read, without an error. -/
theorem rdNum_ok {r : S62} (size most : Int) (hB : Bs r.b) (h : (rdNum r size most).2.e_ = 0) : r.e_ = 0 ∧ r.b = leB (clampS size) (rdNum r size most).1 ++ (rdNum r size most).2.b ∧ 0 ≤ (rdNum r size most).1 ∧ (rdNum r size most).1 ≤ most := by
  unfold rdNum at h ⊢
  split
  · rename_i h0; rw [if_pos h0] at h; exact absurd h h0
  · rename_i h0
    rw [if_neg h0] at h
    split
    · rename_i h1; rw [if_pos h1] at h; simp at h
    · rename_i h1
      rw [if_neg h1] at h
      split
      · rename_i h2; rw [if_pos h2] at h; simp at h
      · rename_i h2
        have hl : (r.b.take (clampS size)).length = clampS size := by rw [List.length_take]; omega
        have := leB_valB (hB.take (clampS size))
        rw [hl] at this
        refine ⟨by simpa using h0, ?_, (valB_bd (hB.take _)).1, by simp only; omega⟩
        simp only
        rw [this, List.take_append_drop]
/-- What is written is read. -/
theorem rdNum_put (size most : Int) (n : Int) (rest : List Int) (m : Bool) (n0 : 0 ≤ n) (n1 : n < 256 ^ (clampS size)) (n2 : n ≤ most) : rdNum ⟨leB (clampS size) n ++ rest, 0, m⟩ size most = (n, ⟨rest, 0, m⟩) := by
  have hl := leB_length (clampS size) n
  have hv : valB (leB (clampS size) n) = n := by rw [valB_eq (leB_Bs _ _) n0 (by rw [hl]; exact n1), hl]
  have ht : (leB (clampS size) n ++ rest).take (clampS size) = leB (clampS size) n := by rw [List.take_left' hl]
  have hd : (leB (clampS size) n ++ rest).drop (clampS size) = rest := by rw [List.drop_left' hl]
  unfold rdNum
  simp only [ne_eq, not_true_eq_false, if_false]
  rw [if_neg (by rw [List.length_append, hl]; omega), ht, hv, hd, if_neg (by omega)]

def rdStr (r : S62) (most : Int) : List Int × S62 :=
  let v := rdNum r 4 (min (max most 0) 16777216)
  if v.2.e_ ≠ 0 then ([], v.2) else if (v.2.b.length : Int) < v.1 then ([], ⟨v.2.b, 30, v.2.made⟩) else (v.2.b.take v.1.toNat, ⟨v.2.b.drop v.1.toNat, 0, v.2.made⟩)
theorem F33_spec (k : Nat) (r : S62) (most : Int) (hm : r.made = true) (hB : Bs r.b) (hk : 8 < k) (hl : r.b.length ≤ 140737488355328) : F33 k r most = some (rdStr r most) := by
  unfold F33 rdStr
  have e : mnI (mxI most 0) 16777216 = min (max most 0) 16777216 := by
    simp only [mnI, mxI]; split <;> split <;> omega
  rw [e, wu64 (by omega) (by omega), F32_spec k r 4 _ hm hB hk, bnd_some']
  have hv0 : 0 ≤ (rdNum r 4 (min (max most 0) 16777216)).1 := by
    unfold rdNum; split
    · simp
    · split
      · simp
      · split
        · simp
        · exact (valB_bd (hB.take _)).1
  have hvm := rdNum_made 4 (min (max most 0) 16777216) hm
  have hvl := rdNum_len (r := r) 4 (min (max most 0) 16777216)
  generalize rdNum r 4 (min (max most 0) 16777216) = v at hv0 hvm hvl
  rw [F27_spec _ hvm, bnd_some']
  by_cases h0 : v.2.e_ = 0
  · have e0 : (v.2.e_ != 0) = false := by simpa using h0
    rw [e0, br_false]
    simp only [h0, ne_eq, not_true_eq_false, if_false]
    rw [wu64 (n := (v.2.b.length : Int)) (by omega) (by omega)]
    by_cases h1 : (v.2.b.length : Int) < v.1
    · rw [decide_eq_true h1, br_true, F36_0 _ hvm h0, if_pos h1]; rfl
    · rw [decide_eq_false h1, br_false, if_neg h1, req_pos (by simp only [cutOk]; omega)]
      unfold F13
      rw [req_pos (by simp only [fits, cut, List.length_nil, List.length_take]; omega), bnd_some', req_pos (by simp only [cutOk]; omega)]
      simp only [cut]
  · have e0 : (v.2.e_ != 0) = true := by simpa using h0
    rw [e0, br_true, if_pos h0]

def rdWords : Nat → S62 → List Int × S62
  | 0, r => ([], r)
  | n + 1, r => let v := rdNum r 8 18446744073709551615; let w := rdWords n v.2; (v.1 :: w.1, w.2)
theorem rdWords_made : ∀ (n : Nat) {r : S62}, r.made = true → (rdWords n r).2.made = true
  | 0, r, h => h
  | n + 1, r, h => rdWords_made n (rdNum_made 8 _ h)
theorem rdWords_Bs : ∀ (n : Nat) {r : S62}, Bs r.b → Bs (rdWords n r).2.b
  | 0, r, h => h
  | n + 1, r, h => rdWords_Bs n (rdNum_Bs 8 _ h)
theorem rdWords_len : ∀ (n : Nat) (r : S62), (rdWords n r).1.length = n
  | 0, r => rfl
  | n + 1, r => by simp [rdWords, rdWords_len n]
theorem S62.eta (r : S62) : S62.mk r.b r.e_ r.made = r := rfl
theorem F35_1_spec (k : Nat) (N : Nat) (x y : Int) (hk : 8 < k) (hN : N ≤ 1000) : ∀ (n i : Nat) (r : S62) (w : List Int), i ≤ N → N - i < n → r.made = true → Bs r.b → w.length = i →
    F35_1 k (N : Int) x y n (i : Int) r.b r.e_ r.made w = some ((rdWords (N - i) r).2.b, (rdWords (N - i) r).2.e_, (rdWords (N - i) r).2.made, w ++ (rdWords (N - i) r).1)
  | 0, i, r, w, _, h, _, _, _ => by omega
  | n + 1, i, r, w, hi, h, hm, hB, hw => by
    rw [F35_1]
    by_cases hlt : i < N
    · rw [decide_eq_true (by omega), br_true, S62.eta, F32_spec k r 8 _ hm hB hk, bnd_some', req_pos (by simp only [fits, List.length_cons, List.length_nil]; omega)]
      rw [show IntKind.i64.wrap ((i : Int) + 1) = ((i + 1 : Nat) : Int) by rw [w64 (by omega) (by omega)]; simp]
      rw [F35_1_spec k N x y hk hN n (i + 1) _ _ (by omega) (by omega) (rdNum_made 8 _ hm) (rdNum_Bs 8 _ hB) (by simp [hw])]
      rw [show N - i = (N - (i + 1)) + 1 by omega]
      simp [rdWords]
    · rw [decide_eq_false (by omega), br_false, show N - i = 0 by omega]
      simp [rdWords]

theorem rdWords_ok : ∀ (n : Nat) {r : S62}, Bs r.b → (rdWords n r).2.e_ = 0 → r.e_ = 0 ∧ r.b = numsB 8 (rdWords n r).1 ++ (rdWords n r).2.b ∧ Ws (rdWords n r).1
  | 0, r, hB, h => ⟨h, by simp [rdWords, numsB], by simp [rdWords, Ws]⟩
  | n + 1, r, hB, h => by
    simp only [rdWords] at h ⊢
    obtain ⟨h1, h2, h3⟩ := rdWords_ok n (rdNum_Bs 8 18446744073709551615 hB) h
    obtain ⟨k1, k2, k3, k4⟩ := rdNum_ok 8 18446744073709551615 hB h1
    refine ⟨k1, ?_, ?_⟩
    · rw [k2, clamp8]
      simp only [numsB, List.flatMap_cons, List.append_assoc]
      congr 1
    · intro x hx
      rcases List.mem_cons.1 hx with rfl | hx
      · exact ⟨k3, by omega⟩
      · exact h3 x hx
theorem rdWords_put (rest : List Int) (m : Bool) : ∀ (W : List Int), Ws W → rdWords W.length ⟨numsB 8 W ++ rest, 0, m⟩ = (W, ⟨rest, 0, m⟩)
  | [], _ => by simp [rdWords, numsB]
  | x :: W, h => by
    obtain ⟨h0, h1⟩ := h x (by simp)
    have e : numsB 8 (x :: W) ++ rest = leB (clampS 8) x ++ (numsB 8 W ++ rest) := by simp [numsB, clamp8]
    simp only [List.length_cons, rdWords]
    rw [e, rdNum_put 8 _ x _ m h0 (by rw [clamp8]; omega) (by omega)]
    simp only
    rw [rdWords_put rest m W fun y hy => h y (by simp [hy])]

open Classical in
/-- A set that is read: N and its words, and the reader behind. -/
noncomputable def rdSet (r : S62) (N : Int) : S32 × S62 :=
  if N < 0 ∨ N > 8192 then (⟨0, []⟩, if r.e_ = 0 then ⟨r.b, 31, r.made⟩ else r)
  else
    let w := rdWords ((N + 63) / 64).toNat r
    if w.2.e_ ≠ 0 then (⟨0, []⟩, w.2) else if chkF ⟨N, w.1⟩ ≠ 0 then (⟨0, []⟩, ⟨w.2.b, 31, w.2.made⟩) else (⟨N, w.1⟩, w.2)

theorem Ws_rdNum {r : S62} (hB : Bs r.b) : 0 ≤ (rdNum r 8 18446744073709551615).1 ∧ (rdNum r 8 18446744073709551615).1 < 18446744073709551616 := by
  unfold rdNum; split
  · simp
  · split
    · simp
    · split
      · simp
      · exact ⟨(valB_bd (hB.take _)).1, by simp only; omega⟩
theorem Ws_rdWords : ∀ (n : Nat) {r : S62}, Bs r.b → Ws (rdWords n r).1
  | 0, r, _ => by simp [rdWords, Ws]
  | n + 1, r, h => by
    intro x hx
    simp only [rdWords, List.mem_cons] at hx
    rcases hx with rfl | hx
    · exact Ws_rdNum h
    · exact Ws_rdWords n (rdNum_Bs 8 _ h) x hx

theorem F35_spec (k : Nat) (r : S62) (N : Int) (hm : r.made = true) (hB : Bs r.b) (hk : 1000 < k) : F35 k r N = some (rdSet r N) := by
  unfold F35 rdSet
  have f36 : F36 r 31 = some (if r.e_ = 0 then ⟨r.b, 31, r.made⟩ else r) := by
    by_cases h : r.e_ = 0
    · rw [F36_0 r hm h, if_pos h]
    · rw [F36_1 r hm h, if_neg h]
  by_cases h1 : N < 0
  · rw [decide_eq_true h1, br_true, f36, if_pos (.inl h1 : N < 0 ∨ N > 8192)]; rfl
  by_cases h2 : N > 8192
  · rw [decide_eq_false h1, br_false, decide_eq_true h2, br_true, f36, if_pos (.inr h2 : N < 0 ∨ N > 8192)]; rfl
  rw [decide_eq_false h1, br_false, decide_eq_false h2, br_false, if_neg (by omega)]
  have e1 : Int.tdiv (N + 63) 64 = (N + 63) / 64 := by rw [Int.tdiv_eq_ediv_of_nonneg (by omega)]
  rw [w64 (n := N + 63) (by omega) (by omega), e1, w64 (n := (N + 63) / 64) (by omega) (by omega)]
  have e2 : (N + 63) / 64 = ((((N + 63) / 64).toNat : Nat) : Int) := by omega
  have q := F35_1_spec k ((N + 63) / 64).toNat 0 N (by omega) (by omega) k 0 r [] (by omega) (by omega) hm hB rfl
  rw [← e2] at q
  simp only [Nat.sub_zero, List.nil_append, Int.cast_ofNat_Int] at q
  rw [q, bnd_some']
  have hwm := rdWords_made ((N + 63) / 64).toNat hm
  have hws := Ws_rdWords ((N + 63) / 64).toNat hB
  generalize rdWords ((N + 63) / 64).toNat r = w at hwm hws
  simp only [S62.eta]
  rw [F27_spec _ hwm, bnd_some']
  by_cases h3 : w.2.e_ = 0
  · have e0 : (w.2.e_ == 0) = true := by simpa using h3
    rw [e0, br_true, F42_spec ⟨N, w.1⟩ hws (by show -9223372036854775808 ≤ N; omega), bnd_some']
    simp only [h3, ne_eq, not_true_eq_false, if_false]
    by_cases h4 : chkF ⟨N, w.1⟩ = 0
    · have e4 : (chkF ⟨N, w.1⟩ != 0) = false := by simpa using h4
      rw [e4, br_false, if_neg (by simpa using h4)]
      rfl
    · have e4 : (chkF ⟨N, w.1⟩ != 0) = true := by simpa using h4
      rw [e4, br_true, if_pos h4, F36_0 _ hwm h3, bnd_some', F27_spec (S62.mk _ 31 w.2.made) hwm, bnd_some']
      rfl
  · have e0 : (w.2.e_ == 0) = false := by simpa using h3
    have e0' : (w.2.e_ != 0) = true := by simpa using h3
    rw [e0, br_false, e0', br_true, if_pos h3]

theorem F24_spec (l : List Int) (h : l.length ≤ 140737488355328) : F24 l = some ⟨l, 0, true⟩ := by
  unfold F24 F13
  rw [req_pos (by simp only [fits, List.length_nil]; omega)]; rfl
theorem F29_spec (r : S62) (hm : r.made = true) : F29 r = some (if r.e_ ≠ 0 then r.e_ else if r.b.length > 0 then 32 else 0) := by
  unfold F29
  rw [F27_spec r hm, bnd_some']
  by_cases h : r.e_ = 0
  · have e0 : (r.e_ != 0) = false := by simpa using h
    rw [e0, br_false, if_neg (by simpa using h)]
    by_cases h2 : r.b.length > 0
    · rw [decide_eq_true (by omega), if_pos h2]; rfl
    · rw [decide_eq_false (by omega), if_neg h2]; rfl
  · have e0 : (r.e_ != 0) = true := by simpa using h
    rw [e0, br_true, if_pos h]

theorem chk0 {N : Int} {W : List Int} (h : chkF ⟨N, W⟩ = 0) : 0 ≤ N ∧ N ≤ 8192 ∧ (W.length : Int) = (N + 63) / 64 := by
  unfold chkF at h
  split at h
  · cases h
  · rename_i h1; simp only at h1; omega

theorem bytesOne (b : List Int) (n : Int) (hb : ∀ y ∈ b, (IntKind.u8.min ≤ y ∧ y ≤ IntKind.u8.max)) (hn : IntKind.u8.min ≤ n ∧ n ≤ IntKind.u8.max) (hs : bkX [EL 1 (EI .u8) b, EI .u8 n] ≤ 1048576) : ∃ k, F7 k b n = some true := by
  have hB := Bs.min hb
  have hlen : b.length ≤ 1048576 := by simp only [bkX, bkL, bk, bkX_EI, EL, EI] at hs; omega
  have hn : 0 ≤ n ∧ n < 256 := by simp [IntKind.min, IntKind.max, IntKind.signed, IntKind.bits] at hn; omega
  refine ⟨20000000, ?_⟩
  unfold F7
  rw [F9_spec _ (by omega), bnd_some', Bool.not_true, br_false, F24_spec b (by omega), bnd_some']
  rw [F32_spec _ ⟨b, 0, true⟩ 2 65536 rfl hB (by omega), bnd_some']
  have m1 := rdNum_made (r := ⟨b, 0, true⟩) 2 65536 rfl
  have B1 := rdNum_Bs (r := ⟨b, 0, true⟩) 2 65536 hB
  have l1 := rdNum_len (r := ⟨b, 0, true⟩) 2 65536
  have o1 := rdNum_ok (r := ⟨b, 0, true⟩) 2 65536 hB
  generalize rdNum ⟨b, 0, true⟩ 2 65536 = v1 at m1 B1 l1 o1
  simp only at l1 o1
  rw [F33_spec _ v1.2 65536 m1 B1 (by omega) (by omega), bnd_some']
  -- the string
  have hstr : (rdStr v1.2 65536).2.made = true ∧ Bs (rdStr v1.2 65536).2.b ∧ (rdStr v1.2 65536).1.length ≤ b.length ∧ (rdStr v1.2 65536).2.b.length ≤ b.length ∧ ((rdStr v1.2 65536).2.e_ = 0 → v1.2.e_ = 0 ∧ v1.2.b = leB 4 (rdStr v1.2 65536).1.length ++ (rdStr v1.2 65536).1 ++ (rdStr v1.2 65536).2.b) := by
    unfold rdStr
    have m2 := rdNum_made (r := v1.2) 4 (min (max 65536 0) 16777216) m1
    have B2 := rdNum_Bs (r := v1.2) 4 (min (max 65536 0) 16777216) B1
    have l2 := rdNum_len (r := v1.2) 4 (min (max 65536 0) 16777216)
    have o2 := rdNum_ok (r := v1.2) 4 (min (max 65536 0) 16777216) B1
    generalize rdNum v1.2 4 (min (max 65536 0) 16777216) = v2 at m2 B2 l2 o2
    simp only
    split
    · rename_i h; exact ⟨m2, B2, by simp, by simp only; omega, fun h' => absurd h' h⟩
    · rename_i h
      split
      · exact ⟨m2, B2, by simp, by simp only; omega, fun h' => by simp at h'⟩
      · rename_i h2
        obtain ⟨p1, p2, p3, p4⟩ := o2 (by simpa using h)
        refine ⟨m2, B2.drop _, by simp; omega, by simp; omega, fun _ => ⟨p1, ?_⟩⟩
        have hl : ((v2.2.b.take v2.1.toNat).length : Int) = v2.1 := by rw [List.length_take]; omega
        rw [hl, List.append_assoc, List.take_append_drop, p2]
        rfl
  obtain ⟨m2, B2, l2, l2', o2⟩ := hstr
  generalize rdStr v1.2 65536 = v2 at m2 B2 l2 l2' o2
  rw [w64 (n := n) (by omega) (by omega), F35_spec _ v2.2 n m2 B2 (by omega), bnd_some']
  have hset : (rdSet v2.2 n).2.made = true ∧ ((rdSet v2.2 n).2.e_ = 0 → v2.2.e_ = 0 ∧ v2.2.b = numsB 8 (rdSet v2.2 n).1.Words ++ (rdSet v2.2 n).2.b ∧ chkF (rdSet v2.2 n).1 = 0 ∧ Ws (rdSet v2.2 n).1.Words ∧ (rdSet v2.2 n).1.N = n) := by
    unfold rdSet
    rw [if_neg (by omega)]
    have m3 := rdWords_made ((n + 63) / 64).toNat m2
    have o3 := rdWords_ok ((n + 63) / 64).toNat (r := v2.2) B2
    generalize rdWords ((n + 63) / 64).toNat v2.2 = w at m3 o3
    simp only
    split
    · rename_i h; exact ⟨m3, fun h' => absurd h' h⟩
    · rename_i h
      split
      · exact ⟨m3, fun h' => by simp at h'⟩
      · rename_i h2
        obtain ⟨p1, p2, p3⟩ := o3 (by simpa using h)
        exact ⟨m3, fun _ => ⟨p1, p2, by simpa using h2, p3, rfl⟩⟩
  obtain ⟨m3, o3⟩ := hset
  generalize rdSet v2.2 n = v3 at m3 o3
  rw [F29_spec _ m3, bnd_some']
  by_cases h3 : v3.2.e_ = 0
  · rw [if_neg (by simpa using h3)]
    by_cases h4 : v3.2.b.length > 0
    · rw [if_pos h4]; rfl
    · rw [if_neg h4]
      obtain ⟨q1, q2, q3, q4, q5⟩ := o3 h3
      obtain ⟨r1, r2⟩ := o2 q1
      obtain ⟨s1, s2, s3, s4⟩ := o1 r1
      have hb0 : v3.2.b = [] := List.eq_nil_of_length_eq_zero (by omega)
      rw [hb0, List.append_nil] at q2
      have c2 : clampS 2 = 2 := by decide
      have hnl := numsB_length 8 v3.1.Words
      have hwl : (numsB 8 v3.1.Words).length ≤ b.length := by rw [← q2]; exact l2'
      show br (((0 : Int) != 0)) _ _ = some true
      rw [show (((0 : Int) != 0)) = false from rfl, br_false]
      rw [F15_spec _ [] 2 [v1.1] (by simpa using s3) (by omega) (by simp) (by simp) (by simp), bnd_some', c2, nums1, List.nil_append]
      rw [F17_spec _ _ _ (by omega) (by rw [leB_length]; omega), bnd_some']
      rw [F19_spec _ _ _ q4 (by rw [q5]; omega) (by omega) (by simp only [strF, List.length_append, leB_length]; omega), bnd_some']
      have hfin : setF (strF (leB 2 v1.1) v2.1) v3.1 = b := by
        unfold setF strF
        rw [if_neg (by simpa using q3), s2, r2, q2, c2]
        simp only [List.append_assoc]
      rw [hfin, F12_spec _ _ _ (by omega) (by omega), bnd_some', decide_eq_true rfl]
  · rw [if_pos h3]
    have : (v3.2.e_ != 0) = true := by simpa using h3
    rw [this, br_true]

theorem F34_1_spec (k : Nat) (N M : Int) (a b : List Int) (hl : a.length = b.length) (hb : a.length < 4611686018427387904) : ∀ (n i : Nat), i ≤ a.length → a.length - i < n →
    F34_1 k N a M b n (i : Int) = some (if a.drop i = b.drop i then .inr () else .inl false)
  | 0, i, _, h => by omega
  | n + 1, i, hi, h => by
    rw [F34_1]
    by_cases hlt : i < a.length
    · have ha : a[i]? = some a[i] := List.getElem?_eq_getElem hlt
      have hb' : b[i]? = some (b[i]'(by omega)) := List.getElem?_eq_getElem (by omega)
      rw [at_nat, at_nat, ha, hb', drop_cons ha, drop_cons hb']
      rw [decide_eq_true (by omega), br_true, bnd_some', bnd_some']
      by_cases he : a[i] = b[i]'(by omega)
      · have e1 : (a[i] != b[i]'(by omega)) = false := by simp [he]
        rw [e1, br_false]
        rw [show IntKind.i64.wrap ((i : Int) + 1) = ((i + 1 : Nat) : Int) by rw [w64 (by omega) (by omega)]; simp]
        rw [F34_1_spec k N M a b hl hb n (i + 1) (by omega) (by omega), he]
        simp only [List.cons.injEq, true_and]
      · have e1 : (a[i] != b[i]'(by omega)) = true := by simp [he]
        rw [e1, br_true]
        simp only [List.cons.injEq, he, false_and, if_false]
    · rw [decide_eq_false (by omega), br_false]
      rw [List.drop_eq_nil_of_le (by omega), List.drop_eq_nil_of_le (by omega)]
      simp
theorem F34_refl (k : Nat) (s : S32) (hb : s.Words.length < 4611686018427387904) (hk : s.Words.length < k) : F34 k s s = some true := by
  unfold F34
  have q := F34_1_spec k s.N s.N s.Words s.Words rfl hb k 0 (by omega) (by omega)
  simp only [List.drop_zero, if_true, Int.cast_ofNat_Int] at q
  simp [br, q, bnd, alt]

theorem F6_1_spec (k : Nat) (L : List Int) (hL : Ws L) (rest : List Int) (B : List Int) (z : Int) (L' X : List Int) (N : Int) (W : List Int) (hk : 8 < k) (hb : L.length < 4611686018427387904) (hr : Bs rest) : ∀ (n i : Nat), i ≤ L.length → L.length - i < n →
    F6_1 k L (L.length : Int) B z L' X N W n (i : Int) (numsB 8 (L.drop i) ++ rest) 0 true = some (.inr (rest, 0, true))
  | 0, i, _, h => by omega
  | n + 1, i, hi, h => by
    rw [F6_1]
    by_cases hlt : i < L.length
    · have ha : L[i]? = some L[i] := List.getElem?_eq_getElem hlt
      obtain ⟨c0, c1⟩ := hL L[i] (by simp)
      have e : numsB 8 (L.drop i) ++ rest = leB (clampS 8) L[i] ++ (numsB 8 (L.drop (i + 1)) ++ rest) := by rw [drop_cons ha, clamp8]; simp only [numsB, List.flatMap_cons, List.append_assoc]
      have hB : Bs (numsB 8 (L.drop i) ++ rest) := by
        intro x hx
        rcases List.mem_append.1 hx with hx | hx
        · obtain ⟨y, _, hy⟩ := List.mem_flatMap.1 hx; exact leB_Bs _ _ x hy
        · exact hr x hx
      rw [decide_eq_true (by omega), br_true, at_nat, ha, bnd_some', F32_spec k _ 8 _ rfl hB hk, e, rdNum_put 8 _ _ _ true c0 (by rw [clamp8]; omega) (Int.le_refl _), bnd_some']
      have e1 : (L[i] != L[i]) = false := by simp
      show br (L[i] != L[i]) _ _ = _
      rw [e1, br_false]
      rw [show IntKind.i64.wrap ((i : Int) + 1) = ((i + 1 : Nat) : Int) by rw [w64 (by omega) (by omega)]; simp]
      exact F6_1_spec k L hL rest B z L' X N W hk hb hr n (i + 1) (by omega) (by omega)
    · rw [decide_eq_false (by omega), br_false, List.drop_eq_nil_of_le (by omega)]
      simp [numsB]

theorem bytesBack (q : S34) (hq : W34 q) (hb : bkX [E34 q] ≤ 1048576) : ∃ k, F6 k q = some true := by
  obtain ⟨b, z, L, x, s⟩ := q
  obtain ⟨hB, hz, hL, hx, hN, hw⟩ := hq
  have hx := Bs.min hx
  have hL := Ws.min hL
  have hw := Ws.min hw
  simp only [E34, bkX, bkL, bk, bkX_EI] at hb hN
  have hN : -9223372036854775808 ≤ s.N := by have := hN.1; simpa [IntKind.min, IntKind.signed, IntKind.bits] using this
  simp only at hx hL hw
  refine ⟨20000000, ?_⟩
  unfold F6
  rw [F9_spec _ (by omega), bnd_some', Bool.not_true, br_false, F31_spec _ s hw (by omega) (by omega) hN, bnd_some']
  by_cases hc : chkF s = 0
  · have e0 : (chkF s != 0) = false := by simpa using hc
    rw [e0, br_false]
    simp only
    by_cases h1 : (x.length : Int) > 16777216
    · rw [decide_eq_true h1, br_true]
    · rw [decide_eq_false h1, br_false]
      have hnl := numsB_length 8 L
      have hws := numsB_length 8 s.Words
      obtain ⟨k1, k2, k3⟩ := chk0 (N := s.N) (W := s.Words) hc
      rw [F15_spec _ [] 8 L (fun y hy => (hL y hy).1) (by omega) (by omega) (by omega) (by simp; omega), bnd_some', clamp8, List.nil_append]
      rw [F17_spec _ _ _ (by omega) (by omega), bnd_some']
      rw [F19_spec _ _ s hw hN (by omega) (by simp only [strF, List.length_append, leB_length]; omega), bnd_some']
      have hset : setF (strF (numsB 8 L) x) s = numsB 8 L ++ (leB 4 x.length ++ (x ++ numsB 8 s.Words)) := by
        unfold setF strF; rw [if_neg (by rw [hc]; simp)]; simp only [List.append_assoc]
      rw [hset, F24_spec _ (by simp only [List.length_append, leB_length]; omega), bnd_some']
      have hBs : ∀ (l : List Int), Bs (numsB 8 l) := fun l y hy => by obtain ⟨z, _, hz⟩ := List.mem_flatMap.1 hy; exact leB_Bs _ _ y hz
      have app : ∀ {l m : List Int}, Bs l → Bs m → Bs (l ++ m) := fun h1 h2 y hy => by
        rcases List.mem_append.1 hy with hy | hy
        · exact h1 y hy
        · exact h2 y hy
      have hB2 : Bs (x ++ numsB 8 s.Words) := app hx (hBs _)
      have hB3 : Bs (leB 4 x.length ++ (x ++ numsB 8 s.Words)) := app (leB_Bs _ _) hB2
      have q := F6_1_spec 20000000 L hL (leB 4 x.length ++ (x ++ numsB 8 s.Words)) b z L x s.N s.Words (by omega) (by omega) hB3 20000000 0 (by omega) (by omega)
      simp only [List.drop_zero, Int.cast_ofNat_Int] at q
      simp only at q ⊢
      rw [q, bnd_some']
      show bnd (F33 20000000 ⟨leB 4 x.length ++ (x ++ numsB 8 s.Words), 0, true⟩ (x.length : Int)) _ = some true
      rw [F33_spec _ _ _ rfl hB3 (by omega) (by simp only [List.length_append, leB_length]; omega), bnd_some']
      have c4 := clamp4
      have hstr : rdStr ⟨leB 4 x.length ++ (x ++ numsB 8 s.Words), 0, true⟩ (x.length : Int) = (x, ⟨numsB 8 s.Words, 0, true⟩) := by
        unfold rdStr
        have := rdNum_put 4 (min (max (x.length : Int) 0) 16777216) (x.length : Int) (x ++ numsB 8 s.Words) true (by omega) (by rw [c4]; omega) (by omega)
        rw [c4] at this
        rw [this]
        simp
        omega
      rw [hstr]
      dsimp only
      rw [F12_spec _ _ _ (by omega) (by omega), bnd_some', decide_eq_true rfl, br_true]
      rw [F35_spec _ _ _ rfl (hBs _) (by omega), bnd_some']
      have hrs : rdSet ⟨numsB 8 s.Words, 0, true⟩ s.N = (s, ⟨[], 0, true⟩) := by
        unfold rdSet
        rw [if_neg (by omega)]
        have e : ((s.N + 63) / 64).toNat = s.Words.length := by omega
        have := rdWords_put [] true s.Words hw
        rw [List.append_nil] at this
        rw [e, this]
        simp only [ne_eq, not_true_eq_false, if_false]
        rw [if_neg (by simpa using hc)]
      rw [hrs]
      dsimp only
      rw [F34_refl _ _ (by omega) (by omega), bnd_some', br_true]
      show bnd (F29 ⟨[], 0, true⟩) _ = some true
      rw [F29_spec _ rfl]; rfl
  · have e0 : (chkF s != 0) = true := by simpa using hc
    rw [e0, br_true]
end Go.Ev
