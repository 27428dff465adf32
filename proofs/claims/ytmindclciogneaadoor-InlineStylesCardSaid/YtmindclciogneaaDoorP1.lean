/- The plain law of double quotes: what Put writes is taken back; it is never the text itself. -/
import Derived.Test.YtmindclciogneaaDoorM4
import Derived.Lib.IndexLaws
import Derived.Lib.MapLaws
import Derived.Lib.ValidLaws
import Derived.Lib.TrimUEq
namespace Go.Proofs.YtmindclciogneaaDoor
open Go.RowKit

/-- A rune that has bytes of its own. -/
def OkRune (r : Nat) : Prop := r < 55296 ∨ (57344 ≤ r ∧ r ≤ 1114111)
theorem dec_L (l : Bs) : dec l = Lib.decodeL l := (Lib.decodeL_N l).symm
theorem dec_ok (l : Bs) (hne : l ≠ []) (hv : utfB l = true) : OkRune (dec l).1 ∧ enc (dec l).1 = l.take (dec l).2 ∧ 1 ≤ (dec l).2 ∧ (dec l).2 ≤ l.length ∧ utfB (l.drop (dec l).2) = true := by
  have hs := Lib.validD_step l hne
  unfold utfB at *
  rw [hv] at hs
  rw [dec_L]
  split at hs
  · cases hs
  · rename_i hb
    refine ⟨?_, Lib.encode_decode l hne hb, Lib.decodeL_width l, Lib.decodeL_le l hne, hs.symm⟩
    rw [Lib.decodeL_N] at hb ⊢
    have k0 := (l.getD 0 0).toNat_lt
    have k1 := (l.getD 1 0).toNat_lt
    have k2 := (l.getD 2 0).toNat_lt
    have k3 := (l.getD 3 0).toNat_lt
    unfold OkRune
    rcases Lib.decodeN_shape l.length (l.getD 0 0).toNat (l.getD 1 0).toNat (l.getD 2 0).toNat (l.getD 3 0).toNat with ⟨c, e⟩ | ⟨c1, c2, c3, cv, e⟩ | ⟨c1, c2, c3, c4, cv, cs, e⟩ | ⟨c1, c2, c3, c4, c5, cv, cw, e⟩ | e
    · rw [e]; dsimp only; omega
    · rw [e]; dsimp only; omega
    · rw [e]; dsimp only; omega
    · rw [e]; dsimp only; omega
    · rw [e] at hb ⊢; simp at hb ⊢
/-- A byte that goes through Take as it is. -/
def plainByte (b : UInt8) : Prop := b ≠ 10 ∧ b ≠ 13 ∧ b ≠ 34 ∧ b ≠ 92
theorem takeGo_plain : ∀ (bs X out : Bs) (i f : Nat), (∀ b ∈ bs, plainByte b) → bs.length + X.length ≤ f → ∃ f', X.length ≤ f' ∧ takeGo f (bs ++ X) out i = takeGo f' X (out ++ bs) (i + bs.length)
  | [], X, out, i, f, _, hf => ⟨f, by simpa using hf, by simp⟩
  | b :: bs, X, out, i, f, hp, hf => by
    obtain ⟨f1, rfl⟩ : ∃ f1, f = f1 + 1 := ⟨f - 1, by simp at hf; omega⟩
    obtain ⟨p1, p2, p3, p4⟩ := hp b (by simp)
    obtain ⟨f', h1, h2⟩ := takeGo_plain bs X (out ++ [b]) (i + 1) f1 (fun c hc => hp c (by simp [hc])) (by simp at hf; omega)
    refine ⟨f', h1, ?_⟩
    rw [List.cons_append, takeGo, if_neg (by simp [p1, p2]), if_neg p3, if_neg p4, h2]
    simp only [List.append_assoc, List.singleton_append, List.length_cons]
    rw [show i + 1 + bs.length = i + (bs.length + 1) by omega]
theorem takeGo_esc (e X out : Bs) (r : Int) (i f : Nat) (he : escB (e ++ X) = (r, e.length, true)) (hf : (92 :: e : Bs).length + X.length ≤ f) :
    ∃ f', X.length ≤ f' ∧ takeGo f ((92 :: e) ++ X) out i = takeGo f' X (out ++ enc r) (i + (92 :: e : Bs).length) := by
  obtain ⟨f1, rfl⟩ : ∃ f1, f = f1 + 1 := ⟨f - 1, by simp at hf; omega⟩
  refine ⟨f1, by simp at hf; omega, ?_⟩
  rw [List.cons_append, takeGo, if_neg (by decide), if_neg (by decide), if_pos rfl, he]
  dsimp only
  rw [if_pos rfl, List.drop_left, List.length_cons, show i + 1 + e.length = i + (e.length + 1) by omega]
theorem esc_letter (c : UInt8) (X : Bs) (r : Int) (h : 0 ≤ Lib.indexByte letterL c ∧ runeL.getD (Lib.indexByte letterL c).toNat 0 = r) : escB ([c] ++ X) = (r, 1, true) := by
  rw [List.singleton_append, escB, if_pos h.1, h.2]
theorem esc_sign (c : UInt8) (X : Bs) (h : ¬ 0 ≤ Lib.indexByte letterL c ∧ 0 ≤ Lib.indexByte signsL c) : escB ([c] ++ X) = ((c.toNat : Int), 1, true) := by
  rw [List.singleton_append, escB, if_neg h.1, if_pos h.2]
theorem hexOf_digit : ∀ d, d < 16 → hexOf (sixteen.getD d 0) = d := by decide +kernel
theorem numB_hex : ∀ (k n a : Nat) (X : Bs), numB k (hexB k n ++ X) a = some (a * 16 ^ k + n % 16 ^ k)
  | 0, n, a, X => by simp [numB, Nat.mod_one]
  | k + 1, n, a, X => by
    have hd := hexOf_digit (n / 16 ^ k % 16) (Nat.mod_lt _ (by omega))
    rw [hexB, List.cons_append, numB, hd, if_neg (by omega), numB_hex k n _ X]
    have h1 : n % 16 ^ (k + 1) = n % 16 ^ k + 16 ^ k * (n / 16 ^ k % 16) := by rw [Nat.pow_succ, Nat.mod_mul]
    rw [h1, Nat.pow_succ, Int.toNat_natCast, Nat.add_mul, Nat.mul_assoc, Nat.mul_comm 16 (16 ^ k), Nat.mul_comm (n / 16 ^ k % 16)]
    congr 1
    omega
theorem hexB_length : ∀ k n, (hexB k n).length = k
  | 0, _ => rfl
  | k + 1, n => by rw [hexB, List.length_cons, hexB_length k n]
theorem esc_hex (c : UInt8) (k n : Nat) (X : Bs) (hc : ¬ 0 ≤ Lib.indexByte letterL c ∧ ¬ 0 ≤ Lib.indexByte signsL c ∧ digitsB c = k ∧ k ≠ 0) (hn : n < 16 ^ k) (hr : OkRune n) :
    escB ((c :: hexB k n) ++ X) = ((n : Int), (c :: hexB k n).length, true) := by
  obtain ⟨h1, h2, h3, h4⟩ := hc
  rw [List.cons_append, escB, if_neg h1, if_neg h2, h3, if_neg h4, numOf, if_neg (by rw [List.length_append, hexB_length]; omega), numB_hex]
  simp only [Nat.zero_mul, Nat.zero_add, Nat.mod_eq_of_lt hn]
  unfold OkRune at hr
  rw [if_neg (by omega), List.length_cons, hexB_length]
theorem letterOf_at (r : Int) (c : UInt8) : ∀ xs cs, letterOf r xs cs = some c → ∃ k, k < xs.length ∧ xs.getD k 0 = r ∧ cs.getD k 0 = c
  | [], cs, h => by cases cs <;> cases h
  | x :: xs, [], h => by cases h
  | x :: xs, d :: cs, h => by
    rw [letterOf] at h
    split at h
    · rename_i hx
      cases h
      exact ⟨0, by simp, hx, rfl⟩
    · obtain ⟨k, h1, h2, h3⟩ := letterOf_at r c xs cs h
      exact ⟨k + 1, by simp; omega, by simpa using h2, by simpa using h3⟩
theorem letterOf_none' (r : Int) : ∀ xs (cs : Bs), xs.length = cs.length → letterOf r xs cs = none → ∀ x ∈ xs, x ≠ r
  | [], _, _, _, x, hx => by cases hx
  | y :: ys, [], hl, _, _, _ => by cases hl
  | y :: ys, d :: cs, hl, h, x, hx => by
    rw [letterOf] at h
    split at h
    · cases h
    · rename_i hy
      rcases List.mem_cons.1 hx with rfl | hx
      · exact hy
      · exact letterOf_none' r ys cs (by simpa using hl) h x hx
theorem letters_fit : ∀ k, k < 13 → 0 ≤ Lib.indexByte letterL (letterL.getD k 0) ∧ runeL.getD (Lib.indexByte letterL (letterL.getD k 0)).toNat 0 = runeL.getD k 0 := by decide +kernel
theorem letterOf_some (r : Int) (c : UInt8) (h : letterOf r runeL letterL = some c) : 0 ≤ Lib.indexByte letterL c ∧ runeL.getD (Lib.indexByte letterL c).toNat 0 = r := by
  obtain ⟨k, h1, rfl, rfl⟩ := letterOf_at r c _ _ h
  exact letters_fit k h1
theorem letterOf_none (r : Int) (h : letterOf r runeL letterL = none) : ∀ x ∈ runeL, x ≠ r := letterOf_none' r runeL letterL rfl h
theorem enc_low (r : Nat) (h : r < 128) : enc r = [r.toUInt8] := by
  unfold enc Lib.encodeRune
  rw [Lib.encodeRuneZ_one (by omega) (by omega)]
  simp
theorem byte_nat (z : Int) (n : Nat) (h : z = n) (hn : n < 256) : (z.toNat.toUInt8).toNat = n := by
  subst h
  simp
  omega
theorem enc_high (r : Nat) (h : 128 ≤ r) (ho : OkRune r) : (∀ b ∈ enc r, 128 ≤ b.toNat) ∧ ∃ b t, enc r = b :: t ∧ 192 ≤ b.toNat ∧ ∀ c ∈ t, c.toNat < 192 := by
  unfold OkRune at ho
  unfold enc Lib.encodeRune
  by_cases a : r < 2048
  · rw [Lib.encodeRuneZ_two (by omega) (by omega)]
    simp only [List.map_cons, List.map_nil]
    have e1 := byte_nat (192 + (r : Int) / 64) (192 + r / 64) (by omega) (by omega)
    have e2 := byte_nat (128 + (r : Int) % 64) (128 + r % 64) (by omega) (by omega)
    generalize (192 + (r : Int) / 64).toNat.toUInt8 = b1 at *
    generalize (128 + (r : Int) % 64).toNat.toUInt8 = b2 at *
    refine ⟨?_, _, _, rfl, by omega, ?_⟩
    · intro b hb
      simp only [List.mem_cons, List.not_mem_nil, or_false] at hb
      rcases hb with rfl | rfl <;> omega
    · intro b hb
      simp only [List.mem_cons, List.not_mem_nil, or_false] at hb
      subst hb
      omega
  · by_cases a2 : r < 65536
    · rw [Lib.encodeRuneZ_three (by omega)]
      simp only [List.map_cons, List.map_nil]
      have e1 := byte_nat (224 + (r : Int) / 4096) (224 + r / 4096) (by omega) (by omega)
      have e2 := byte_nat (128 + (r : Int) / 64 % 64) (128 + r / 64 % 64) (by omega) (by omega)
      have e3 := byte_nat (128 + (r : Int) % 64) (128 + r % 64) (by omega) (by omega)
      generalize (224 + (r : Int) / 4096).toNat.toUInt8 = b1 at *
      generalize (128 + (r : Int) / 64 % 64).toNat.toUInt8 = b2 at *
      generalize (128 + (r : Int) % 64).toNat.toUInt8 = b3 at *
      refine ⟨?_, _, _, rfl, by omega, ?_⟩
      · intro b hb
        simp only [List.mem_cons, List.not_mem_nil, or_false] at hb
        rcases hb with rfl | rfl | rfl <;> omega
      · intro b hb
        simp only [List.mem_cons, List.not_mem_nil, or_false] at hb
        rcases hb with rfl | rfl <;> omega
    · rw [Lib.encodeRuneZ_four (by omega) (by omega)]
      simp only [List.map_cons, List.map_nil]
      have e1 := byte_nat (240 + (r : Int) / 262144) (240 + r / 262144) (by omega) (by omega)
      have e2 := byte_nat (128 + (r : Int) / 4096 % 64) (128 + r / 4096 % 64) (by omega) (by omega)
      have e3 := byte_nat (128 + (r : Int) / 64 % 64) (128 + r / 64 % 64) (by omega) (by omega)
      have e4 := byte_nat (128 + (r : Int) % 64) (128 + r % 64) (by omega) (by omega)
      generalize (240 + (r : Int) / 262144).toNat.toUInt8 = b1 at *
      generalize (128 + (r : Int) / 4096 % 64).toNat.toUInt8 = b2 at *
      generalize (128 + (r : Int) / 64 % 64).toNat.toUInt8 = b3 at *
      generalize (128 + (r : Int) % 64).toNat.toUInt8 = b4 at *
      refine ⟨?_, _, _, rfl, by omega, ?_⟩
      · intro b hb
        simp only [List.mem_cons, List.not_mem_nil, or_false] at hb
        rcases hb with rfl | rfl | rfl | rfl <;> omega
      · intro b hb
        simp only [List.mem_cons, List.not_mem_nil, or_false] at hb
        rcases hb with rfl | rfl | rfl <;> omega

/-- One rune, as it is written, is taken back. -/
theorem take_one (r : Nat) (ho : OkRune r) (X out : Bs) (i f : Nat) (hf : (oneB r).length + X.length ≤ f) :
    ∃ f', X.length ≤ f' ∧ takeGo f (oneB r ++ X) out i = takeGo f' X (out ++ enc r) (i + (oneB r).length) := by
  unfold oneB at *
  have hl := letterOf_none r
  cases hL : letterOf r runeL letterL with
  | some c =>
    rw [hL] at hf
    exact takeGo_esc [c] X out r i f (esc_letter c X r (letterOf_some r c hL)) hf
  | none =>
    have hno := hl hL
    rw [hL] at hf
    dsimp only at hf ⊢
    by_cases h1 : (r : Int) = 34 ∨ (r : Int) = 92
    · rw [if_pos h1] at hf ⊢
      have h1' : r = 34 ∨ r = 92 := by omega
      rcases h1' with rfl | rfl
      · exact takeGo_esc [34] X out 34 i f (esc_sign 34 X (by decide +kernel)) hf
      · exact takeGo_esc [92] X out 92 i f (esc_sign 92 X (by decide +kernel)) hf
    · rw [if_neg h1] at hf ⊢
      by_cases h2 : printableB r = true
      · rw [if_pos h2] at hf ⊢
        refine takeGo_plain _ X out i f (fun b hb => ?_) hf
        by_cases h3 : r < 128
        · rw [enc_low r h3, List.mem_singleton] at hb
          subst hb
          have hp := (printableB_iff r).1 h2
          have n9 := hno 9 (by decide)
          have n10 := hno 10 (by decide)
          have n13 := hno 13 (by decide)
          have hlt : (r.toUInt8).toNat = r := by simp; omega
          refine ⟨?_, ?_, ?_, ?_⟩ <;> (intro e; rw [e] at hlt; simp at hlt; omega)
        · have := (enc_high r (by omega) ho).1 b hb
          refine ⟨?_, ?_, ?_, ?_⟩ <;> (intro e; subst e; simp at this)
      · rw [if_neg h2] at hf ⊢
        have ho2 := ho
        unfold OkRune at ho2
        by_cases h3 : (r : Int) < 256
        · rw [if_pos h3] at hf ⊢
          exact takeGo_esc (120 :: hexB 2 r) X out r i f (esc_hex 120 2 r X (by decide +kernel) (by omega) ho) hf
        · rw [if_neg h3] at hf ⊢
          by_cases h4 : (r : Int) < 65536
          · rw [if_pos h4] at hf ⊢
            exact takeGo_esc (117 :: hexB 4 r) X out r i f (esc_hex 117 4 r X (by decide +kernel) (by omega) ho) hf
          · rw [if_neg h4] at hf ⊢
            exact takeGo_esc (85 :: hexB 8 r) X out r i f (esc_hex 85 8 r X (by decide +kernel) (by omega) ho) hf
theorem take_ones : ∀ (k : Nat) (l out : Bs) (i f : Nat), l.length ≤ k → utfB l = true → (onesB k l).length + 1 ≤ f → takeGo f (onesB k l ++ [34]) out i = (out ++ l, i + (onesB k l).length + 1, true)
  | k, [], out, i, f, _, _, hf => by
    have e : onesB k [] = [] := by cases k <;> rfl
    rw [e] at hf ⊢
    obtain ⟨f1, rfl⟩ : ∃ f1, f = f1 + 1 := ⟨f - 1, by omega⟩
    simp [takeGo]
  | 0, x :: l, _, _, _, hk, _, _ => by simp at hk
  | k + 1, x :: l, out, i, f, hk, hv, hf => by
    obtain ⟨h1, h2, h3, h4, h5⟩ := dec_ok (x :: l) (by simp) hv
    rw [onesB] at hf ⊢
    rw [if_neg (by simp)] at hf ⊢
    rw [List.length_append] at hf
    obtain ⟨f', h6, h7⟩ := take_one _ h1 (onesB k ((x :: l).drop (dec (x :: l)).2) ++ [34]) out i f (by rw [List.length_append]; simpa [Nat.add_assoc] using hf)
    rw [List.append_assoc, h7, take_ones k _ _ _ f' (by rw [List.length_drop]; omega) h5 (by simpa using h6), h2, List.append_assoc, List.take_append_drop, List.length_append]
    simp only [Nat.add_assoc]
theorem take_back (l : Bs) (hv : utfB l = true) : takeD (putB l) = (l, (putB l).length, true) := by
  unfold putB takeD
  rw [List.append_assoc, List.singleton_append]
  dsimp only
  rw [if_pos rfl, take_ones l.length l [] 1 _ (Nat.le_refl _) hv (by simp)]
  simp
  omega
/-- How many bytes begin a sign. -/
def cnt (l : Bs) : Nat := l.countP fun b => !(decide (128 ≤ b.toNat) && decide (b.toNat < 192))
theorem cnt_app (a b : Bs) : cnt (a ++ b) = cnt a + cnt b := List.countP_append
theorem cnt_enc (r : Nat) (ho : OkRune r) : cnt (enc r) = 1 := by
  by_cases h : r < 128
  · rw [enc_low r h]
    have hlt : (r.toUInt8).toNat = r := by simp; omega
    unfold cnt
    rw [List.countP_singleton, hlt, if_pos (by simp; omega)]
  · obtain ⟨h1, b, t, e, h2, h3⟩ := enc_high r (by omega) ho
    rw [e] at h1 ⊢
    have ht : t.countP (fun b => !(decide (128 ≤ b.toNat) && decide (b.toNat < 192))) = 0 := by
      rw [List.countP_eq_zero]
      intro c hc
      have a1 := h1 c (by simp [hc])
      have a2 := h3 c hc
      simp [a1, a2]
    unfold cnt
    rw [List.countP_cons, ht, if_pos (by simp; omega)]
theorem cnt_one (r : Nat) (ho : OkRune r) : 1 ≤ cnt (oneB r) := by
  have h92 : ∀ t : Bs, 1 ≤ cnt (92 :: t) := fun t => by
    unfold cnt
    rw [List.countP_cons, if_pos (by decide)]
    omega
  unfold oneB
  split
  · exact h92 _
  · split
    · exact h92 _
    · split
      · rw [cnt_enc r ho]
        omega
      · split
        · exact h92 _
        · split <;> exact h92 _
theorem cnt_ones : ∀ (k : Nat) (l : Bs), l.length ≤ k → utfB l = true → cnt l ≤ cnt (onesB k l)
  | k, [], _, _ => by simp [cnt]
  | 0, x :: l, hk, _ => by simp at hk
  | k + 1, x :: l, hk, hv => by
    obtain ⟨h1, h2, h3, h4, h5⟩ := dec_ok (x :: l) (by simp) hv
    have ih := cnt_ones k _ (by rw [List.length_drop]; omega) h5
    have h6 := cnt_one _ h1
    have h7 := cnt_enc _ h1
    rw [onesB, if_neg (by simp), cnt_app]
    have h8 : cnt (x :: l) = cnt ((x :: l).take (dec (x :: l)).2) + cnt ((x :: l).drop (dec (x :: l)).2) := by rw [← cnt_app, List.take_append_drop]
    rw [h8, ← h2, h7]
    omega
theorem put_ne (l : Bs) (hv : utfB l = true) : putB l ≠ l := by
  intro e
  have h1 := cnt_ones l.length l (Nat.le_refl _) hv
  have h2 : cnt (putB l) = 1 + cnt (onesB l.length l) + 1 := by
    unfold putB
    rw [cnt_app, cnt_app]
    rfl
  rw [e] at h2
  omega
theorem valid_nil (flow : Bool) : validB [] flow = false := by simp [validB]
end Go.Proofs.YtmindclciogneaaDoor
