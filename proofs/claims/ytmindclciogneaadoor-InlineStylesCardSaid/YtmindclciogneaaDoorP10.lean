/- Texts of printable runes alone, none below 32: they pass Check, have no break, no mark. What style writes is such a text. -/
import Derived.Test.YtmindclciogneaaDoorP1
import Derived.Test.YtmindclciogneaaDoorMI
namespace Go.Proofs.YtmindclciogneaaDoor
open Go.RowKit

theorem dec_enc (r : Nat) (ho : OkRune r) (X : Bs) : dec (enc r ++ X) = (r, (enc r).length) := by
  unfold OkRune at ho
  by_cases a0 : r < 128
  · rw [enc_low r a0]
    have hlt : (r.toUInt8).toNat = r := by simp; omega
    unfold dec
    rw [Lib.decodeN_ascii _ _ _ _ _ (by simp only [List.singleton_append, List.getD_cons_zero]; omega)]
    simp only [List.singleton_append, List.getD_cons_zero, List.length_singleton, hlt]
  · unfold enc Lib.encodeRune
    by_cases a : r < 2048
    · rw [Lib.encodeRuneZ_two (by omega) (by omega)]
      simp only [List.map_cons, List.map_nil]
      have e1 := byte_nat (192 + (r : Int) / 64) (192 + r / 64) (by omega) (by omega)
      have e2 := byte_nat (128 + (r : Int) % 64) (128 + r % 64) (by omega) (by omega)
      generalize (192 + (r : Int) / 64).toNat.toUInt8 = b1 at *
      generalize (128 + (r : Int) % 64).toNat.toUInt8 = b2 at *
      unfold dec
      simp only [List.cons_append, List.nil_append, List.length_cons, List.length_nil, List.getD_cons_zero, List.getD_cons_succ, e1, e2]
      rcases Lib.decodeN_shape (X.length + 1 + 1) (192 + r / 64) (128 + r % 64) (X.getD 0 0).toNat (X.getD 1 0).toNat with ⟨c, e⟩ | ⟨c1, c2, c3, cv, e⟩ | ⟨c1, c2, c3, c4, cv, cs, e⟩ | ⟨c1, c2, c3, c4, c5, cv, cw, e⟩ | e
      · omega
      · rw [e, Prod.mk.injEq]; omega
      · omega
      · omega
      · exfalso
        unfold Lib.decodeN at e
        rw [if_neg (by omega), if_pos (by omega), if_pos (by omega), Prod.mk.injEq] at e
        omega
    · by_cases a2 : r < 65536
      · rw [Lib.encodeRuneZ_three (by omega)]
        simp only [List.map_cons, List.map_nil]
        have e1 := byte_nat (224 + (r : Int) / 4096) (224 + r / 4096) (by omega) (by omega)
        have e2 := byte_nat (128 + (r : Int) / 64 % 64) (128 + r / 64 % 64) (by omega) (by omega)
        have e3 := byte_nat (128 + (r : Int) % 64) (128 + r % 64) (by omega) (by omega)
        generalize (224 + (r : Int) / 4096).toNat.toUInt8 = b1 at *
        generalize (128 + (r : Int) / 64 % 64).toNat.toUInt8 = b2 at *
        generalize (128 + (r : Int) % 64).toNat.toUInt8 = b3 at *
        unfold dec
        simp only [List.cons_append, List.nil_append, List.length_cons, List.length_nil, List.getD_cons_zero, List.getD_cons_succ, e1, e2, e3]
        unfold Lib.decodeN
        rw [if_neg (by omega), if_neg (by omega), if_pos (by omega), if_pos (by omega), Prod.mk.injEq]
        omega
      · rw [Lib.encodeRuneZ_four (by omega) (by omega)]
        simp only [List.map_cons, List.map_nil]
        have e1 := byte_nat (240 + (r : Int) / 262144) (240 + r / 262144) (by omega) (by omega)
        have e2 := byte_nat (128 + (r : Int) / 4096 % 64) (128 + r / 4096 % 64) (by omega) (by omega)
        have e3 := byte_nat (128 + (r : Int) / 64 % 64) (128 + r / 64 % 64) (by omega) (by omega)
        have e4 := byte_nat (128 + (r : Int) % 64) (128 + r % 64) (by omega) (by omega)
        generalize (240 + (r : Int) / 262144).toNat.toUInt8 = b1 at *
        generalize (128 + (r : Int) / 4096 % 64).toNat.toUInt8 = b2 at *
        generalize (128 + (r : Int) / 64 % 64).toNat.toUInt8 = b3 at *
        generalize (128 + (r : Int) % 64).toNat.toUInt8 = b4 at *
        unfold dec
        simp only [List.cons_append, List.nil_append, List.length_cons, List.length_nil, List.getD_cons_zero, List.getD_cons_succ, e1, e2, e3, e4]
        unfold Lib.decodeN
        rw [if_neg (by omega), if_neg (by omega), if_neg (by omega), if_pos (by omega), if_pos (by omega), Prod.mk.injEq]
        omega
theorem enc_pos (r : Nat) (ho : OkRune r) : 1 ≤ (enc r).length := by
  have h := dec_pos (enc r ++ [])
  rw [dec_enc r ho] at h
  exact h

/-- Printable runes alone, none below 32. -/
inductive Cl : Bs → Prop
  | nil : Cl []
  | cons (r : Nat) (X : Bs) : OkRune r → printableB r = true → 32 ≤ r → Cl X → Cl (enc r ++ X)
theorem Cl.byte {c : UInt8} {X : Bs} (h1 : 32 ≤ c.toNat) (h2 : c.toNat ≤ 126) (h : Cl X) : Cl (c :: X) := by
  have e : enc c.toNat = [c] := by
    rw [enc_low _ (by omega)]
    simp
  have := Cl.cons c.toNat X (.inl (by omega)) ((printableB_iff _).2 (by omega)) h1 h
  rw [e] at this
  exact this
theorem Cl.app {X Y : Bs} (h : Cl X) (h2 : Cl Y) : Cl (X ++ Y) := by
  induction h with
  | nil => exact h2
  | cons r X a b c _ ih => rw [List.append_assoc]; exact .cons r _ a b c ih
theorem Cl.asc : ∀ {l : Bs}, (∀ c ∈ l, 32 ≤ c.toNat ∧ c.toNat ≤ 126) → Cl l
  | [], _ => .nil
  | c :: t, h => .byte (h c (by simp)).1 (h c (by simp)).2 (Cl.asc fun d hd => h d (by simp [hd]))
theorem bad_ok (l : Bs) (r n : Nat) (h : dec l = (r, n)) (ho : OkRune r) (he : enc r = l.take n) : badRune l = false := by
  unfold badRune
  rw [h]
  by_cases hr : r = 65533
  · subst hr
    by_cases hn : n < 2
    · have h1 : (enc ((65533 : Nat) : Int)).length = 3 := by decide
      rw [he, List.length_take] at h1
      omega
    · simp [hn]
  · simp [hr]
theorem Cl.ok {l : Bs} (h : Cl l) : ∀ k at_, l.length ≤ k → checkFrom k l at_ = none := by
  induction h with
  | nil => intro k at_ _; cases k <;> rfl
  | cons r X ho hp h32 _ ih =>
    intro k at_ hk
    have hpos := enc_pos r ho
    rw [List.length_append] at hk
    obtain ⟨k, rfl⟩ : ∃ m, k = m + 1 := ⟨k - 1, by omega⟩
    have hd := dec_enc r ho X
    rw [checkFrom, if_neg (by rw [List.isEmpty_iff]; intro e; have := congrArg List.length e; rw [List.length_append, List.length_nil] at this; omega),
      bad_ok _ r _ hd ho (by simp), hd]
    dsimp only
    have h13 : (r == 13) = false := by rw [beq_eq_false_iff_ne]; omega
    rw [h13, hp, Bool.false_and, if_neg (by simp), List.drop_left]
    exact ih k _ (by omega)
theorem Cl.bytes {l : Bs} (h : Cl l) : ∀ c ∈ l, 32 ≤ c.toNat := by
  induction h with
  | nil => intro c hc; cases hc
  | cons r X ho hp h32 _ ih =>
    intro c hc
    rw [List.mem_append] at hc
    rcases hc with hc | hc
    · by_cases h : r < 128
      · rw [enc_low r h] at hc
        rw [List.mem_singleton] at hc
        subst hc
        have : (r.toUInt8).toNat = r := by simp; omega
        omega
      · have := (enc_high r (by omega) ho).1 c hc
        omega
    · exact ih c hc
theorem Cl.noMark {l : Bs} (h : Cl l) : markB l = false ∧ List.isPrefixOf ([239, 187, 191] : Bs) l = false := by
  have key : ∀ t : Bs, ¬ Cl (239 :: 187 :: 191 :: t) := by
    intro t ht
    have hd : dec (239 :: 187 :: 191 :: t) = (65279, 3) := by
      unfold dec
      simp only [List.length_cons, List.getD_cons_zero, List.getD_cons_succ]
      unfold Lib.decodeN
      have e1 : (239 : UInt8).toNat = 239 := rfl
      have e2 : (187 : UInt8).toNat = 187 := rfl
      have e3 : (191 : UInt8).toNat = 191 := rfl
      rw [e1, e2, e3, if_neg (by omega), if_neg (by omega), if_pos (by omega), if_pos (by omega)]
    generalize hl : (239 :: 187 :: 191 :: t : Bs) = l at *
    cases ht with
    | nil => cases hl
    | cons r X ho hp h32 hX =>
      rw [dec_enc r ho] at hd
      obtain ⟨rfl, _⟩ := Prod.mk.inj hd
      exact absurd hp (by decide)
  rcases l with _ | ⟨a, _ | ⟨b, _ | ⟨c, t⟩⟩⟩
  · exact ⟨rfl, rfl⟩
  · exact ⟨by simp [markB], by simp [List.isPrefixOf]⟩
  · exact ⟨by simp [markB], by simp [List.isPrefixOf]⟩
  · have hn : ¬ (a = 239 ∧ b = 187 ∧ c = 191) := by
      rintro ⟨rfl, rfl, rfl⟩
      exact key t h
    constructor
    · unfold markB
      rw [beq_eq_false_iff_ne]
      intro e
      simp at e
      exact hn e
    · rw [← Bool.not_eq_true]
      intro e
      simp [List.isPrefixOf] at e
      exact hn ⟨e.1.symm, e.2.1.symm, e.2.2.symm⟩
theorem Cl.check {l : Bs} (h : Cl l) (hl : l.length ≤ 65536) : check l = (0, 0) := by
  unfold Go.Proofs.YtmindclciogneaaDoor.check
  rw [if_neg (by omega), h.noMark.1, if_neg (by simp), h.ok _ _ (Nat.le_refl _)]
  rfl
theorem Cl.crlf {l : Bs} (h : Cl l) : l.any (fun c => c == 13 || c == 10) = false := by
  rw [List.any_eq_false]
  intro c hc
  have := h.bytes c hc
  simp only [Bool.or_eq_true, beq_iff_eq, not_or]
  constructor
  · rintro rfl; exact absurd this (by decide)
  · rintro rfl; exact absurd this (by decide)
/-- What passes cleanFrom is such a text. -/
theorem Cl.of_clean : ∀ (k : Nat) (l : Bs), l.length ≤ k → cleanFrom k l = true → Cl l
  | k, [], _, _ => .nil
  | 0, x :: l, hk, _ => by simp at hk
  | k + 1, x :: l, hk, h => by
    rw [cleanFrom, if_neg (by simp)] at h
    split at h
    · cases h
    · rename_i hc
      simp only [Bool.or_eq_true, Bool.not_eq_true', decide_eq_true_eq, not_or, Bool.not_eq_true, Bool.not_eq_false] at hc
      obtain ⟨⟨hb, hp⟩, h32⟩ := hc
      have hq : ¬ ((Lib.decodeL (x :: l)).1 = 65533 ∧ (Lib.decodeL (x :: l)).2 = 1) := by
        rintro ⟨e1, e2⟩
        rw [← dec_L] at e1 e2
        unfold badRune at hb
        rw [e1, e2] at hb
        exact absurd hb (by decide)
      have he := Lib.encode_decode (x :: l) (by simp) hq
      rw [← dec_L] at he
      have hle := dec_le (x :: l) (by simp)
      have hpos := dec_pos (x :: l)
      have ih := Cl.of_clean k ((x :: l).drop (dec (x :: l)).2) (by rw [List.length_drop]; simp at hk ⊢; omega) h
      have hok : OkRune (dec (x :: l)).1 := by
        have hlt := dec_lt (x :: l)
        have := (printableB_iff _).1 hp
        unfold OkRune
        omega
      have := Cl.cons _ _ hok hp (by omega) ih
      have he2 : enc ((dec (x :: l)).1 : Int) = (x :: l).take (dec (x :: l)).2 := he
      rw [he2, List.take_append_drop] at this
      exact this
theorem Cl.utf {l : Bs} (h : Cl l) : utfB l = true := by
  induction h with
  | nil => rfl
  | cons r X ho hp h32 _ ih =>
    have hd := dec_enc r ho X
    have hne : enc r ++ X ≠ [] := by
      intro e
      have := congrArg List.length e
      have := enc_pos r ho
      rw [List.length_append, List.length_nil] at *
      omega
    have hs := Lib.validD_step (enc r ++ X) hne
    rw [← dec_L, hd] at hs
    dsimp only at hs
    rw [if_neg ?_, List.drop_left] at hs
    · unfold utfB at *
      rw [hs]
      exact ih
    · rintro ⟨rfl, e2⟩
      exact absurd e2 (by decide)
theorem Cl.valid {l : Bs} {flow : Bool} (h : validB l flow = true) : Cl l ∧ l ≠ [] ∧ plainLen l flow = l.length := by
  unfold validB at h
  simp only [Bool.and_eq_true, Bool.not_eq_true', beq_iff_eq] at h
  exact ⟨Cl.of_clean _ _ (Nat.le_refl _) h.1.1, by intro e; rw [e] at h; exact absurd h.1.2 (by simp), h.2⟩
theorem letters_asc : ∀ c ∈ letterL, 32 ≤ c.toNat ∧ c.toNat ≤ 126 := by decide
theorem hex_asc : ∀ d, d < 16 → 32 ≤ (sixteen.getD d 0).toNat ∧ (sixteen.getD d 0).toNat ≤ 126 := by decide
theorem hexB_asc : ∀ k n, ∀ c ∈ hexB k n, 32 ≤ c.toNat ∧ c.toNat ≤ 126
  | 0, n, c, h => by cases h
  | k + 1, n, c, h => by
    rw [hexB, List.mem_cons] at h
    rcases h with rfl | h
    · exact hex_asc _ (Nat.mod_lt _ (by omega))
    · exact hexB_asc k n c h
theorem Cl.one (r : Nat) (ho : OkRune r) : Cl (oneB r) := by
  unfold oneB
  split
  · rename_i c hc
    obtain ⟨k, hk, _, rfl⟩ := letterOf_at _ _ _ _ hc
    have hm : letterL.getD k 0 ∈ letterL := by
      have hk2 : k < letterL.length := hk
      rw [List.getD_eq_getElem?_getD, List.getElem?_eq_getElem hk2]
      exact List.getElem_mem hk2
    exact Cl.asc fun d hd => by
      simp only [List.mem_cons, List.not_mem_nil, or_false] at hd
      rcases hd with rfl | rfl
      · decide
      · exact letters_asc _ hm
  · rename_i hno
    have hno := letterOf_none r hno
    have n9 : r ≠ 9 := fun e => hno 9 (by decide) (by omega)
    have n10 : r ≠ 10 := fun e => hno 10 (by decide) (by omega)
    have n13 : r ≠ 13 := fun e => hno 13 (by decide) (by omega)
    split
    · rename_i h
      have : enc (r : Int) = enc r ++ [] := by simp
      rw [this]
      exact Cl.byte (by decide) (by decide) (.cons r [] ho ((printableB_iff _).2 (by omega)) (by omega) .nil)
    · split
      · rename_i hp
        have h1 := (printableB_iff _).1 hp
        have : enc (r : Int) = enc r ++ [] := by simp
        rw [this]
        exact .cons r [] ho hp (by omega) .nil
      · split
        · exact Cl.asc fun d hd => by
            rw [List.mem_append] at hd
            rcases hd with hd | hd
            · revert d; decide
            · exact hexB_asc _ _ d hd
        · split
          · exact Cl.asc fun d hd => by
              rw [List.mem_append] at hd
              rcases hd with hd | hd
              · revert d; decide
              · exact hexB_asc _ _ d hd
          · exact Cl.asc fun d hd => by
              rw [List.mem_append] at hd
              rcases hd with hd | hd
              · revert d; decide
              · exact hexB_asc _ _ d hd
theorem Cl.ones : ∀ (k : Nat) (l : Bs), l.length ≤ k → utfB l = true → Cl (onesB k l)
  | k, [], _, _ => by cases k <;> exact .nil
  | 0, x :: l, hk, _ => by simp at hk
  | k + 1, x :: l, hk, hv => by
    obtain ⟨h1, h2, h3, h4, h5⟩ := dec_ok (x :: l) (by simp) hv
    rw [onesB, if_neg (by simp)]
    exact (Cl.one _ h1).app (Cl.ones k _ (by rw [List.length_drop]; simp at hk ⊢; omega) h5)
theorem Cl.put (l : Bs) (hv : utfB l = true) : Cl (putB l) :=
  Cl.app (Cl.app (Cl.asc (by decide)) (Cl.ones _ l (Nat.le_refl _) hv)) (Cl.asc (by decide))
end Go.Proofs.YtmindclciogneaaDoor

/- What style writes is one scalar on a line, of that text and that tag. -/
namespace Go.Proofs.YtmindclciogneaaDoor
open Go.RowKit

theorem isB_drop (s : Bs) (k : Nat) (c : UInt8) (t : Bs) (signs : Bs) (h : s.drop k = c :: t) : isB s k signs = signs.contains c := by
  have hk : k < s.length := by
    have := congrArg List.length h
    rw [List.length_drop, List.length_cons] at this
    omega
  unfold isB
  have e : s.getD k 0 = c := by
    have h0 : (s.drop k)[0]? = some c := by rw [h]; rfl
    rw [List.getElem?_drop, Nat.add_zero] at h0
    rw [List.getD_eq_getElem?_getD, h0]
    rfl
  rw [e, decide_eq_true hk, Bool.true_and]
theorem parse_scalar (f : Nat) (s : Bs) (flow : Bool) (tag anc : Bs) (n : Nat) (v : Bs) (st k : Nat) (hcl : Cl s) (hl : s.length ≤ 65536)
    (hp : propsB s = ((tag, anc), n, true)) (h1 : isB s (skipB s n) [42] = false) (h2 : isB s (skipB s n) [91, 123] = false)
    (ht : textB s (skipB s n) flow = (v, st, k, true)) (hk : 0 < k) (hend : skipB s n + k = s.length) :
    ∃ y, parseM (f + 1) s flow = some ([y], 0) ∧ y.kind = 1 ∧ y.style = st ∧ y.tag = tagB 1 st tag v ∧ y.value = v ∧ y.anchor = anc := by
  unfold parseM
  have hm : List.isPrefixOf markL s = false := hcl.noMark.2
  rw [hcl.check hl, hm, hcl.crlf, if_neg (by decide)]
  simp only [takeM, nodeM, List.drop_zero, hp, Nat.zero_add, h1, h2, ht, List.nil_append, decide_eq_true hk, Bool.not_true, Bool.false_eq_true, if_false, if_true, ne_eq, not_true_eq_false, Nd.done, hend, false_or]
  rw [if_neg (by omega)]
  exact ⟨_, rfl, rfl, rfl, rfl, rfl, rfl⟩
theorem propsGo_stop (f : Nat) (c : UInt8) (t : Bs) (p : Bs × Bs) (n i : Nat) (h1 : c ≠ 38) (h2 : c ≠ 33) : propsGo f (c :: t) p n i = (p, n, true) := by
  cases f with
  | zero => rfl
  | succ f => rw [propsGo]; simp [h1, h2]
theorem skip_none (c : UInt8) (t : Bs) (h : c ≠ 32) : skipB (c :: t) 0 = 0 := by
  unfold skipB
  simp [h]
theorem plain_parses (f : Nat) (l : Bs) (flow : Bool) (hl : l.length ≤ 65536) (h : validB l flow = true) :
    ∃ y, parseM (f + 1) l flow = some ([y], 0) ∧ y.kind = 1 ∧ y.style = 1 ∧ y.tag = resolveB l ∧ y.value = l ∧ y.anchor = [] := by
  obtain ⟨hcl, hne, hpl⟩ := Cl.valid h
  cases l with
  | nil => exact absurd rfl hne
  | cons c t =>
    have hst : startsB (c :: t) flow = true := by
      unfold plainLen at hpl
      split at hpl
      · assumption
      · simp at hpl
    have hlist : ∀ x ∈ ([91, 123, 38, 42, 33, 39, 34, 32] : Bs), c ≠ x := by
      rintro x hx rfl
      revert hst
      simp only [List.mem_cons, List.not_mem_nil, or_false] at hx
      unfold startsB
      dsimp only
      rcases hx with rfl | rfl | rfl | rfl | rfl | rfl | rfl | rfl
      all_goals (split <;> first | (intro h; cases h; done) | (split <;> first | (intro h; cases h; done) | (rw [if_neg (by decide)]; intro h; exact absurd h (by decide))) | (rename_i h; exact absurd h (by decide)))
    have e0 := skip_none c t (hlist 32 (by decide))
    have hd : (c :: t).drop 0 = c :: t := rfl
    have hi : ∀ x, c ≠ x → isB (c :: t) 0 [x] = false := fun x hx => by
      rw [isB_drop _ _ c t _ hd]
      simpa using hx
    have ht : textB (c :: t) 0 flow = (c :: t, 1, (c :: t).length, true) := by
      unfold textB
      rw [hi 34 (hlist 34 (by decide)), hi 39 (hlist 39 (by decide)), if_neg (by simp), if_neg (by simp), List.drop_zero, hpl, List.take_of_length_le (Nat.le_refl _)]
    obtain ⟨y, h1, h2, h3, h4, h5, h6⟩ := parse_scalar f (c :: t) flow [] [] 0 (c :: t) 1 (c :: t).length hcl hl
      (by unfold propsB; exact propsGo_stop _ c t _ _ _ (hlist 38 (by decide)) (hlist 33 (by decide)))
      (by rw [e0]; exact hi 42 (hlist 42 (by decide)))
      (by
        rw [e0, isB_drop _ _ c t _ hd]
        have a := hlist 91 (by decide)
        have b := hlist 123 (by decide)
        simp [a, b])
      (by rw [e0]; exact ht) (by simp) (by rw [e0]; simp)
    exact ⟨y, h1, h2, h3, by rw [h4]; rfl, h5, h6⟩
theorem put_head (l : Bs) : ∃ t, putB l = 34 :: t := ⟨onesB l.length l ++ [34], by simp [putB]⟩
theorem put_pos (l : Bs) : 0 < (putB l).length := by obtain ⟨t, ht⟩ := put_head l; rw [ht]; simp
theorem put_parses (f : Nat) (l : Bs) (flow : Bool) (hl : (putB l).length ≤ 65536) (h : utfB l = true) :
    ∃ y, parseM (f + 1) (putB l) flow = some ([y], 0) ∧ y.kind = 1 ∧ y.style = 3 ∧ y.tag = tagStr ∧ y.value = l ∧ y.anchor = [] := by
  have hcl := Cl.put l h
  have hb := take_back l h
  have hpos := put_pos l
  obtain ⟨t, ht⟩ := put_head l
  rw [ht] at hcl hb hl hpos ⊢
  have e0 := skip_none 34 t (by decide)
  have hd : (34 :: t : Bs).drop 0 = 34 :: t := rfl
  obtain ⟨y, h1, h2, h3, h4, h5, h6⟩ := parse_scalar f (34 :: t) flow [] [] 0 l 3 (34 :: t : Bs).length hcl hl
    (by unfold propsB; exact propsGo_stop _ 34 t _ _ _ (by decide) (by decide))
    (by rw [e0, isB_drop _ _ 34 t _ hd]; decide) (by rw [e0, isB_drop _ _ 34 t _ hd]; decide)
    (by rw [e0]; unfold textB; rw [isB_drop _ _ 34 t _ hd, if_pos (by decide), List.drop_zero, hb]) hpos (by rw [e0]; omega)
  exact ⟨y, h1, h2, h3, by rw [h4]; rfl, h5, h6⟩
theorem takeWhile_all (t X : Bs) (h : ∀ c ∈ t, c ≠ 32) : (t ++ 32 :: X).takeWhile (· != 32) = t := by
  induction t with
  | nil => simp
  | cons c t ih =>
    rw [List.cons_append, List.takeWhile_cons_of_pos (by simpa using h c (by simp)), ih (fun d hd => h d (by simp [hd]))]
theorem tagged_parses (f : Nat) (u l : Bs) (flow : Bool) (hu : ∀ c ∈ (33 :: u : Bs), c ≠ 32 ∧ 32 ≤ c.toNat ∧ c.toNat ≤ 126) (hv : validTagB (33 :: u) = true) (hne : (33 :: u : Bs) ≠ [33])
    (hl : (33 :: u ++ [32] ++ putB l).length ≤ 65536) (h : utfB l = true) :
    ∃ y, parseM (f + 1) (33 :: u ++ [32] ++ putB l) flow = some ([y], 0) ∧ y.kind = 1 ∧ y.style = 3 ∧ y.tag = 33 :: u ∧ y.value = l ∧ y.anchor = [] := by
  have hcl : Cl (33 :: u ++ [32] ++ putB l) := ((Cl.asc (fun c hc => (hu c hc).2)).app (Cl.asc (by decide))).app (Cl.put l h)
  have hb := take_back l h
  have hpos := put_pos l
  obtain ⟨t, ht⟩ := put_head l
  rw [List.append_assoc, List.singleton_append] at hl hcl ⊢
  rw [ht] at hcl hb hl hpos ⊢
  have hw : wordB (33 :: u ++ 32 :: 34 :: t) = 33 :: u := takeWhile_all (33 :: u) (34 :: t) (fun c hc => (hu c hc).1)
  have hd1 : (33 :: u ++ 32 :: 34 :: t).drop (33 :: u : Bs).length = 32 :: 34 :: t := List.drop_left
  have hd2 : (33 :: u ++ 32 :: 34 :: t).drop ((33 :: u : Bs).length + 1) = 34 :: t := by rw [← List.drop_drop, hd1]; rfl
  have hsk : skipB (33 :: u ++ 32 :: 34 :: t) (33 :: u : Bs).length = (33 :: u : Bs).length + 1 := by
    unfold skipB
    rw [hd1]
    rfl
  have hp : propsB (33 :: u ++ 32 :: 34 :: t) = ((33 :: u, []), (33 :: u : Bs).length, true) := by
    unfold propsB
    have hlen : (33 :: u ++ 32 :: 34 :: t : Bs).length = (u.length + t.length + 2) + 1 := by simp; omega
    rw [hlen, List.cons_append, propsGo]
    (try dsimp only)
    rw [← List.cons_append, hw, if_pos (.inr rfl)]
    have ha : addB ([], []) (33 :: u) = some (33 :: u, []) := by
      rw [addB]
      rw [if_neg (by decide)]
      simp [hv]
    rw [ha]
    (try dsimp only)
    rw [hd1]
    have hle : leftB (32 :: 34 :: t) = 34 :: t := rfl
    rw [hle, propsGo_stop _ 34 t _ _ _ (by decide) (by decide), Nat.zero_add]
  obtain ⟨y, h1, h2, h3, h4, h5, h6⟩ := parse_scalar f (33 :: u ++ 32 :: 34 :: t) flow (33 :: u) [] (33 :: u : Bs).length l 3 (34 :: t : Bs).length hcl hl hp
    (by rw [hsk, isB_drop _ _ 34 t _ hd2]; decide) (by rw [hsk, isB_drop _ _ 34 t _ hd2]; decide)
    (by rw [hsk]; unfold textB; rw [isB_drop _ _ 34 t _ hd2, if_pos (by decide), hd2, hb]) hpos
    (by rw [hsk]; simp; omega)
  refine ⟨y, h1, h2, h3, ?_, h5, h6⟩
  rw [h4]
  unfold tagB
  rw [if_pos]
  simp only [List.isEmpty_cons, Bool.not_false, Bool.true_and]
  simpa using hne
/-- The tags of chapter 12's law. -/
def tags7 : List Bs := [[33, 33, 115, 116, 114], [33, 33, 105, 110, 116], [33, 33, 102, 108, 111, 97, 116], [33, 33, 98, 111, 111, 108], [33, 33, 110, 117, 108, 108], [33, 120], [33, 33, 121]]
theorem choose_parses (f : Nat) (l : Bs) (flow : Bool) (hl : (putB l).length ≤ 65536) (hl2 : l.length ≤ 65536) (h : utfB l = true) :
    ∃ y, parseM (f + 1) (chooseB l flow) flow = some ([y], 0) ∧ y.kind = 1 ∧ y.tag = tagStr ∧ y.value = l ∧ y.anchor = [] := by
  unfold chooseB
  split
  · rename_i hv
    simp only [Bool.and_eq_true, beq_iff_eq] at hv
    obtain ⟨y, h1, h2, _, h4, h5, h6⟩ := plain_parses f l flow hl2 hv.1
    exact ⟨y, h1, h2, by rw [h4, hv.2], h5, h6⟩
  · obtain ⟨y, h1, h2, _, h4, h5, h6⟩ := put_parses f l flow hl h
    (try rw [if_pos h])
    exact ⟨y, h1, h2, h4, h5, h6⟩
theorem best_utf (tag l : Bs) (flow : Bool) (h : (bestB tag l flow).2 = true) : utfB l = true := by
  unfold bestB at h
  split at h
  · cases hu : utfB l
    · unfold chooseB at h
      rw [hu] at h
      cases hv : validB l flow
      · rw [hv] at h; simp at h
      · rw [(Cl.valid hv).1.utf] at hu; cases hu
    · rfl
  · split at h
    · rename_i hv
      simp only [Bool.and_eq_true] at hv
      exact (Cl.valid hv.2).1.utf
    · split at h
      · assumption
      · cases h
theorem best_no (tag l : Bs) (flow : Bool) (h : (bestB tag l flow).2 = false) : (bestB tag l flow).1 = [] := by
  unfold bestB at h ⊢
  split at h
  · rename_i ht
    rw [if_pos ht]
    simpa using h
  · rename_i ht
    rw [if_neg ht]
    split at h
    · cases h
    · rename_i hv
      rw [if_neg hv]
      split at h
      · cases h
      · rename_i hu
        rw [if_neg hu]
theorem best_parses (f : Nat) (tag l : Bs) (flow : Bool) (ht : tag ∈ tags7) (hl : (putB l).length ≤ 60000) (hl2 : l.length ≤ 60000) (h : (bestB tag l flow).2 = true) :
    ∃ y, parseM (f + 1) (bestB tag l flow).1 flow = some ([y], 0) ∧ y.kind = 1 ∧ y.tag = tag ∧ y.value = l ∧ y.anchor = [] := by
  have hu := best_utf tag l flow h
  unfold bestB
  split
  · rename_i hs
    obtain ⟨y, h1, h2, h4, h5, h6⟩ := choose_parses f l flow (by omega) (by omega) hu
    exact ⟨y, h1, h2, by rw [h4]; exact (beq_iff_eq.1 hs).symm, h5, h6⟩
  · split
    · rename_i hv
      simp only [Bool.and_eq_true, beq_iff_eq] at hv
      obtain ⟨y, h1, h2, _, h4, h5, h6⟩ := plain_parses f l flow (by omega) hv.2
      exact ⟨y, h1, h2, by rw [h4, hv.1], h5, h6⟩
    · (try rw [if_pos hu])
      have key : ∀ u : Bs, tag = 33 :: u → (∀ c ∈ (33 :: u : Bs), c ≠ 32 ∧ 32 ≤ c.toNat ∧ c.toNat ≤ 126) → validTagB (33 :: u) = true → (33 :: u : Bs) ≠ [33] → u.length ≤ 10 →
          ∃ y, parseM (f + 1) (tag ++ [32] ++ putB l) flow = some ([y], 0) ∧ y.kind = 1 ∧ y.tag = tag ∧ y.value = l ∧ y.anchor = [] := by
        rintro u rfl h1 h2 h3 h4
        obtain ⟨y, g1, g2, _, g4, g5, g6⟩ := tagged_parses f u l flow h1 h2 h3 (by simp only [List.length_append, List.length_cons, List.length_nil]; omega) hu
        exact ⟨y, g1, g2, g4, g5, g6⟩
      unfold tags7 at ht
      simp only [List.mem_cons, List.not_mem_nil, or_false] at ht
      rcases ht with h | h | h | h | h | h | h
      all_goals exact key _ h (by decide) (by decide) (by decide) (by decide)
end Go.Proofs.YtmindclciogneaaDoor
