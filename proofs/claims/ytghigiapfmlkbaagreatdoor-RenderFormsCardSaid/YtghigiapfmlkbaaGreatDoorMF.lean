/- Maps of the call's own, said as functions from keys to elements. -/
import Derived.Test.YtghigiapfmlkbaaGreatDoorW
import Derived.Maps.OwnSet
import Derived.Maps.RangeWalk
import Derived.StringKeys
import Derived.Orders
namespace Go.Proofs.YtghigiapfmlkbaaGreatDoor
open Go.RowKit
open Go.Maps (Keyed)

theorem plainElem_inj {P : Program} {E : TypeId} {u v : Value} {d : DataW Unit} {p p' : List MemPlace} (hu : plainElem P E u = some (d, p)) (hv : plainElem P E v = some (d, p')) : u = v := by
  unfold plainElem at hu hv
  split at hu
  · rename_i hE
    rw [hE] at hv
    cases hu
    cases v <;> simp at hv
    rw [hv.1]
  · rename_i q hE
    split at hu
    · rename_i hc
      obtain ⟨rfl, hw⟩ := hc
      cases hu
      rw [hE] at hv
      cases v <;> simp at hv
      obtain ⟨⟨rfl, _⟩, rfl, _⟩ := hv
      rfl
    · cases hu
  · rename_i hE
    split at hu
    · cases hu
      rw [hE] at hv
      cases v <;> simp at hv
      obtain ⟨_, h, _⟩ := hv
      congr 1
      exact (WideShapes.bytes_inj (by rw [h])).symm
    · cases hu
  · cases hu
theorem plainElem_not_nil {P : Program} {E : TypeId} {u : Value} {d : DataW Unit} {p : List MemPlace} (hu : plainElem P E u = some (d, p)) : d ≠ .nil := by
  unfold plainElem at hu
  split at hu
  · cases hu; simp
  · split at hu
    · cases hu; simp
    · cases hu
  · split at hu
    · cases hu; simp
    · cases hu
  · cases hu
theorem turned_cell {w w' : World} {b : Nat} (h : w.mapTurned w' b) (a : Addr) : w'.cell? a = w.cell? a := by
  obtain ⟨es, clock, es', clock', hb, rfl⟩ := h
  by_cases e : a.block = b
  · unfold World.cell?
    rw [e, ChangeMaps.heap_setBlock_same hb, hb]
  · unfold World.cell?
    rw [ChangeMaps.heap_setBlock_other hb _ e]
theorem turned_size {w w' : World} {b : Nat} (h : w.mapTurned w' b) : w'.heap.size = w.heap.size := by
  obtain ⟨es, clock, es', clock', hb, rfl⟩ := h
  simp [ChangeMaps.setBlock]
theorem turned_below {B b : Nat} {w0 w w' : World} (h : Below B w0 w) (ht : w.mapTurned w' b) (hB : B ≤ w.heap.size) (hb : B ≤ b) : Below B w0 w' :=
  h.grown ht.grown hB (fun k hk => by cases hk; exact hb)
/-- Block b is a map of at most n entries whose element at each key is what f says. -/
def MapF (P : Program) (K E : TypeId) (w : World) (b n : Nat) (f : Value → Option Value) : Prop :=
  ∃ D : DataW Unit, w.ownsMap P K (plainElem P E) b n D ∧ ∀ key kl, keyOf P K key = some kl →
    match f key with
    | none => ∀ z, D.atKey kl z = z
    | some v => ∃ d p, plainElem P E v = some (d, p) ∧ ∀ z, D.atKey kl z = d
section
variable {P : Program} {K E T : TypeId} {w : World} {b n : Nat} {f : Value → Option Value}
theorem MapF.made (w : World) (P : Program) (K E : TypeId) : MapF P K E (w.alloc (.map #[] 0)) w.heap.size 0 (fun _ => none) :=
  ⟨_, World.ownsMap_made w P K _, fun _ _ _ _ => rfl⟩
theorem MapF.kept {w' : World} {row : Option Nat} (h : MapF P K E w b n f) (hg : w.grownBy w' row) (hne : some b ≠ row) : MapF P K E w' b n f := by
  obtain ⟨D, h1, h2⟩ := h
  exact ⟨D, h1.kept hg hne, h2⟩
theorem MapF.below {w' : World} (h : MapF P K E w b n f) (hb : Below w.heap.size w w') : MapF P K E w' b n f :=
  h.kept (row := none) ⟨hb.os, hb.tape, hb.output, hb.size, fun i hi _ => hb.block i hi⟩ (by simp)
theorem MapF.alloc (h : MapF P K E w b n f) (o : Obj) : MapF P K E (w.alloc o) b n f := h.kept (World.grownBy_alloc w o none) (by simp)
theorem MapF.setCell (h : MapF P K E w b n f) {a : Addr} (ha : b ≠ a.block) (u : Value) : MapF P K E (w.setCell a u) b n f := by
  obtain ⟨D, h1, h2⟩ := h
  exact ⟨D, h1.setCell ha u, h2⟩
theorem MapF.drew (h : MapF P K E w b n f) : MapF P K E w.drew b n f := h
theorem MapF.mono (h : MapF P K E w b n f) {n' : Nat} (hn : n ≤ n') : MapF P K E w b n' f := by
  obtain ⟨D, h1, h2⟩ := h
  exact ⟨D, h1.mono hn, h2⟩
theorem MapF.lt (h : MapF P K E w b n f) : b < w.heap.size := by
  obtain ⟨D, h1, _⟩ := h
  exact h1.lt
theorem MapF.ext {g : Value → Option Value} (h : MapF P K E w b n f) (hg : ∀ key kl, keyOf P K key = some kl → g key = f key) : MapF P K E w b n g := by
  obtain ⟨D, h1, h2⟩ := h
  exact ⟨D, h1, fun key kl hk => by rw [hg key kl hk]; exact h2 key kl hk⟩
/-- A look-up, with 'ok' or without. -/
theorem MapF.look (h : MapF P K E w b n f) (c : Bool) (law : Keyed P K) (ht : P.underlying T = some (.map K E)) {z : Value} (hz : (zeroValue E).run P w = .ok z w) {key : Value} {kl : Lit} (hkey : keyOf P K key = some kl) :
    (Instr.lookup T (.map (some b)) key c).run P w = .ok (if c then .tuple #[(f key).getD z, .bool (f key).isSome] else (f key).getD z) w := by
  obtain ⟨D, ⟨es, clock, hb, F, hs, rfl⟩, h2⟩ := h
  have h2 := h2 key kl hkey
  rcases Maps.fit_look c law ht hz hb F hkey with ⟨hrun, _, hat⟩ | ⟨e0, y, _, _, hrun, hRv, hat, _⟩
  · rw [hrun]
    cases hf : f key with
    | none => rfl
    | some v =>
      rw [hf] at h2
      obtain ⟨d, p, hd, hd2⟩ := h2
      have := (hat .nil).symm.trans (hd2 .nil)
      exact absurd this.symm (plainElem_not_nil hd)
  · rw [hrun]
    obtain ⟨yd, yp⟩ := y
    cases hf : f key with
    | none =>
      rw [hf] at h2
      have := (hat .nil).symm.trans (h2 .nil)
      exact absurd this (plainElem_not_nil hRv)
    | some v =>
      rw [hf] at h2
      obtain ⟨d, p, hd, hd2⟩ := h2
      have e : yd = d := (hat .nil).symm.trans (hd2 .nil)
      subst e
      rw [plainElem_inj hRv hd]
      rfl
/-- A store. -/
theorem MapF.store (h : MapF P K E w b n f) (law : Keyed P K) (ht : P.underlying T = some (.map K E)) (hn : n < maxLen) {key v : Value} {kl : Lit} (hkey : keyOf P K key = some kl) {d : DataW Unit} {p : List MemPlace} (hv : plainElem P E v = some (d, p)) :
    ∃ w', (Instr.mapUpdate T (.map (some b)) key v).run P w = .ok () w' ∧ (∀ g : Value → Option Value, g key = some v → (∀ k, k ≠ key → g k = f k) → MapF P K E w' b (n + 1) g) ∧ w.mapTurned w' b := by
  obtain ⟨D, h1, h2⟩ := h
  obtain ⟨w', hrun, hown, hgr⟩ := h1.store law ht hn hkey hv
  refine ⟨w', hrun, fun g hg1 hg2 => ⟨_, hown, fun k kl' hk => ?_⟩, hgr⟩
  by_cases e : k = key
  · subst e
    rw [hkey] at hk
    cases hk
    rw [hg1]
    exact ⟨d, p, hv, fun z => Maps.atKey_put_same h1.isMap (law.key hkey) d z⟩
  · rw [hg2 k e]
    have hne : kl' ≠ kl := fun e2 => e (law.inj (by rw [e2] at hk; exact hk) hkey)
    have h3 := h2 k kl' hk
    cases hf : f k with
    | none =>
      rw [hf] at h3
      exact fun z => (Maps.atKey_put_other hne d z).trans (h3 z)
    | some v' =>
      rw [hf] at h3
      obtain ⟨d', p', h4, h5⟩ := h3
      exact ⟨d', p', h4, fun z => (Maps.atKey_put_other hne d z).trans (h5 z)⟩
end
theorem MapF.look_ok {P : Program} {K E T : TypeId} {w : World} {b n : Nat} {f : Value → Option Value} (h : MapF P K E w b n f) (law : Keyed P K) (ht : P.underlying T = some (.map K E)) {z : Value} (hz : (zeroValue E).run P w = .ok z w) {key : Value} {kl : Lit} (hkey : keyOf P K key = some kl) (r : Option Value) (hr : f key = r) :
    (Instr.lookup T (.map (some b)) key true).run P w = .ok (.tuple #[r.getD z, .bool r.isSome]) w := by
  have := h.look true law ht hz hkey
  rw [hr] at this
  exact this
theorem MapF.look_at {P : Program} {K E T : TypeId} {w : World} {b n : Nat} {f : Value → Option Value} (h : MapF P K E w b n f) (law : Keyed P K) (ht : P.underlying T = some (.map K E)) {z : Value} (hz : (zeroValue E).run P w = .ok z w) {key : Value} {kl : Lit} (hkey : keyOf P K key = some kl) (r : Option Value) (hr : f key = r) :
    (Instr.lookup T (.map (some b)) key false).run P w = .ok (r.getD z) w := by
  have := h.look false law ht hz hkey
  rw [hr] at this
  exact this
end Go.Proofs.YtghigiapfmlkbaaGreatDoor

/- A map's literal, ranged over: the region that fills it, in whatever order. -/
namespace Go.Proofs.YtghigiapfmlkbaaGreatDoor
open Go.RowKit
open Go.Maps (Keyed)

theorem app_l (a b : Bs) : (⟨a.toArray⟩ : ByteArray) ++ ⟨b.toArray⟩ = ⟨(a ++ b).toArray⟩ := by
  apply WideShapes.bytes_inj
  simp
theorem size_l (l : Bs) : (⟨l.toArray⟩ : ByteArray).size = l.length := by rw [← sl_len, sl_mk]
def evalV (val : Tmp → Value) : Operand → Value
  | .tmp t => val t
  | .const v => v
  | .global g => .pointer (some ⟨g, 0, none⟩)
  | .func f => .func (.func f) #[] #[]
/-- The entries of a map are of a table. -/
def GoodD (q : IntKind) (tab : List (Bs × Int)) (D : DataW Unit) : Prop := ∃ es, D = .map es ∧ ∀ p ∈ es, ∃ key c, p = (.string key, .lit (.int q c)) ∧ (key, c) ∈ tab
theorem GoodD.put {q : IntKind} {tab : List (Bs × Int)} {D : DataW Unit} (h : GoodD q tab D) {key : Bs} {c : Int} (hm : (key, c) ∈ tab) : GoodD q tab (D.put (.string key) (.lit (.int q c))) := by
  obtain ⟨es, rfl, h⟩ := h
  refine ⟨_, rfl, fun p hp => ?_⟩
  rcases (WideShapes.insert_perm _ _).mem_iff.1 hp |> List.mem_cons.1 with rfl | hp
  · exact ⟨key, c, rfl, hm⟩
  · exact h p (List.mem_filter.1 hp).1
theorem GoodD.at {q : IntKind} {tab : List (Bs × Int)} {D : DataW Unit} (h : GoodD q tab D) {key : Bs} {c : Int} (hat : ∀ zd, D.atKey (.string key) zd = .lit (.int q c)) : (key, c) ∈ tab := by
  obtain ⟨es, rfl, h⟩ := h
  have h1 := hat .nil
  simp only [DataW.atKey] at h1
  split at h1
  · rename_i p hp
    obtain ⟨key', c', e, hm⟩ := h p (List.mem_of_find?_eq_some hp)
    have h2 := List.find?_some hp
    rw [e] at h1 h2
    simp only [Lit.sameKey, beq_iff_eq] at h2
    simp only [DataW.lit.injEq, Lit.int.injEq, true_and] at h1
    subst h2
    subst h1
    exact hm
  · cases h1
theorem keyStr_inv {P : Program} {K : TypeId} (hK : P.underlying K = some .string) {key : Value} {kl : Lit} (h : keyOf P K key = some kl) : ∃ s, key = .string s ∧ kl = .string s.data.toList := by
  cases key <;> simp [keyOf, hK, mapKey] at h
  obtain ⟨_, rfl⟩ := h
  exact ⟨_, rfl, rfl⟩
/-- THE STEP of a loop over such a map. -/
theorem wpList_next_lit {P : Program} (w : World) {ops : Array Oper} {rest : List Oper} {o : Oper} {a : Act} {Q : Exit → Act → World → Prop} (hg : o.guard = none) (it : Operand) (hop : o.op = Op.next it false) (K E : TypeId) (q : IntKind) (law : Keyed P K) (hK : P.underlying K = some .string) (hE : P.underlying E = some (.int q))
    (tab : List (Bs × Int)) (b r n : Nat) (D : DataW Unit) (hgood : GoodD q tab D) (left : Lit → Bool) (cnt : Nat) (hit : a.eval it = .pointer (some ⟨r, 0, none⟩)) (h : w.ranges P K (plainElem P E) b r n D left cnt)
    (hDone : wpList P ops Q rest (a.put o.dst (.tuple #[.bool false])) w)
    (hMore : ∀ (s : Bs) (c : Int) (left' : Lit → Bool) (w' : World) (cnt' : Nat), (s, c) ∈ tab → w'.ranges P K (plainElem P E) b r n D left' cnt' → cnt' < cnt → w.grownBy w' (some r) → w'.heap.size = w.heap.size →
      (Instr.entry (.pointer (some ⟨r, 0, none⟩))).run P w' = .ok (.tuple #[.string ⟨s.toArray⟩, .int q c]) w' → wpList P ops Q rest (a.put o.dst (.tuple #[.bool true, .string ⟨s.toArray⟩, .int q c])) w') :
    wpList P ops Q (o :: rest) a w :=
  wpList_next_ranges w hg it hop K law (plainElem P E) Value.string (Value.int q) (fun key kl hkey => by obtain ⟨x, rfl, _⟩ := keyStr_inv hK hkey; exact ⟨x, rfl⟩) (fun v y hv => by obtain ⟨c, rfl, _⟩ := plainElem_int_inv hE hv; exact ⟨c, rfl⟩)
    b r n D left cnt hit h (fun _ _ => hDone) (fun x c kl y w' cnt' hkey hlk hv hat hrg hlt hgr hsz hen => by
      obtain ⟨x', ex, rfl⟩ := keyStr_inv hK hkey
      cases ex
      obtain ⟨c', ec, rfl, hwc⟩ := plainElem_int_inv hE hv
      cases ec
      have hx : (⟨x.data.toList.toArray⟩ : ByteArray) = x := by cases x; simp
      have := hMore x.data.toList c _ w' cnt' (hgood.at hat) hrg hlt hgr hsz (by rw [hx]; exact hen)
      rw [hx] at this
      exact this)
theorem below_grown {w w1 : World} (h : Below w.heap.size w w1) : w.grownBy w1 none := ⟨h.os, h.tape, h.output, h.size, fun i hi _ => h.block i hi⟩
/-- What an operation of such a region does, said over the last values of the temporaries. -/
inductive LitOp (T : TypeId) (q : IntKind) (val : Tmp → Value) (n0 : Nat) (tab : List (Bs × Int)) (tm : Tmp) (op : Op) (dst : Option Tmp) : Prop
  | move (d : Tmp) (x : Operand) (h1 : op = .move x) (h2 : dst = some d) (h3 : val d = evalV val x)
  | add (d : Tmp) (x y : Operand) (S S' : TypeId) (a b : ByteArray) (h1 : op = .binOp .add S x y S') (h2 : dst = some d) (hx : evalV val x = .string a) (hy : evalV val y = .string b) (h3 : val d = .string (a ++ b)) (hs : a.size + b.size ≤ 1000000)
  | make (h1 : op = .makeMap T none) (h2 : dst = some tm)
  | ins (k v : Operand) (s : ByteArray) (c : Int) (h1 : op = .insert T (.tmp tm) k v) (h2 : dst = none) (hk : evalV val k = .string s) (hv : evalV val v = .int q c) (hw : (Lit.int q c).wf = true) (hs : s.size ≤ 1000000) (ht : (s.data.toList, c) ∈ tab)
/-- The last values: of a list, else as they were. -/
def valOf (l : List (Tmp × Value)) (base : Tmp → Value) (t : Tmp) : Value := match l.lookup t with
  | some v => v
  | none => base t
/-- The region of a number in a code, and its operations. -/
def findReg2 (n : Nat) : Code → Option (Array Oper)
  | .region m o _ => if m == n then some o else none
  | .seq a b => match findReg2 n a with
    | some c => some c
    | none => findReg2 n b
  | .block _ c => findReg2 n c
  | .scope c => findReg2 n c
  | .loop c => findReg2 n c
  | .cond _ a b => match findReg2 n a with
    | some c => some c
    | none => findReg2 n b
  | _ => none
def regOps (n : Nat) (c : Option Code) : Array Oper := (c.bind (findReg2 n)).getD #[]
/-- Each operand is a temporary that an operation ahead has written, or none has. -/
def litChk (ops : Array Oper) : Bool := ops.toList.zipIdx.all fun (o, i) =>
  o.guard.isNone && (o.after.all fun e => !Region.binds .any e || decide (e.on < i)) &&
  (o.op.operands.toList.all fun | .tmp t => ops.toList.zipIdx.all (fun (p, j) => p.dst != some t || o.after.any (fun e => Region.binds .any e && e.on == j)) | _ => true)
structure LitDone (ops : Array Oper) (i : Nat) (o : Oper) : Prop where
  guard : o.guard = none
  low : ∀ e ∈ o.after, Region.binds .any e = true → e.on < i
  data : ∀ t, Operand.tmp t ∈ o.op.operands.toList → ∀ j p, ops[j]? = some p → p.dst = some t → ∃ e ∈ o.after, Region.binds .any e = true ∧ e.on = j
theorem litChk_at {ops : Array Oper} (h : litChk ops = true) {i : Nat} {o : Oper} (ho : ops[i]? = some o) : LitDone ops i o := by
  unfold litChk at h
  rw [List.all_eq_true] at h
  have hi : (o, i) ∈ ops.toList.zipIdx := by
    rw [List.mem_zipIdx_iff_getElem?]
    simpa using ho
  have h1 := h _ hi
  simp only [Bool.and_eq_true] at h1
  obtain ⟨⟨h1, h2⟩, h3⟩ := h1
  refine ⟨by simpa using h1, fun e he hb => ?_, fun t ht j p hj hp => ?_⟩
  · have := Array.all_eq_true_iff_forall_mem.1 h2 e he
    simpa [hb] using this
  · have h4 := List.all_eq_true.1 h3 _ ht
    dsimp only at h4
    have h5 := List.all_eq_true.1 h4 (p, j) (by rw [List.mem_zipIdx_iff_getElem?]; simpa using hj)
    simp only [hp, Bool.or_eq_true, bne_self_eq_false, Bool.false_eq_true, false_or] at h5
    rw [← Array.any_toList] at h5
    obtain ⟨e, he, h6⟩ := List.any_eq_true.1 h5
    simp only [Bool.and_eq_true, beq_iff_eq] at h6
    exact ⟨e, Array.mem_toList_iff.1 he, h6.1, h6.2⟩

section
variable {P : Program} {ops : Array Oper} {T K E : TypeId} {q : IntKind} {val : Tmp → Value} {tab : List (Bs × Int)}

/-- How far the map is. -/
def MapAt (P : Program) (K E : TypeId) (q : IntKind) (tab : List (Bs × Int)) (w0 : World) (made : Bool) (k : Nat) (w : World) : Prop :=
  Below w0.heap.size w0 w ∧ (made = false → w.heap.size = w0.heap.size) ∧ (made = true → ∃ D, w.ownsMap P K (plainElem P E) w0.heap.size k D ∧ GoodD q tab D)
/-- What stands once some operations are done. -/
structure LitAt (P : Program) (ops : Array Oper) (K E : TypeId) (q : IntKind) (val : Tmp → Value) (tab : List (Bs × Int)) (jm : Nat) (a0 : Act) (w0 : World) (listed : Array Bool) (fuel : Nat) (a : Act) (w : World) : Prop where
  defers : a.defers = a0.defers
  size : a.tmps.size = a0.tmps.size
  lsize : listed.size = ops.size
  cnt : listed.toList.countP (fun b => !b) = fuel
  dc : ∀ i o, ops[i]? = some o → listed.getD i false = true → ∀ e ∈ o.after, Region.binds .any e = true → listed.getD e.on false = true
  vals : ∀ t, a.tmps.getD t undef = val t ∨ ∃ j p, ops[j]? = some p ∧ p.dst = some t ∧ listed.getD j false = false
  mp : ∃ k, k + fuel ≤ ops.size ∧ MapAt P K E q tab w0 (listed.getD jm false) k w
/-- The region's data. -/
structure LitReg (P : Program) (ops : Array Oper) (T K E : TypeId) (q : IntKind) (val : Tmp → Value) (tab : List (Bs × Int)) (tm : Tmp) (jm jr : Nat) (n0 N : Nat) : Prop where
  chk : litChk ops = true
  kinds : ∀ i o, ops[i]? = some o → i ≠ jr → LitOp T q val n0 tab tm o.op o.dst
  make : ∃ p, ops[jm]? = some p ∧ p.op = .makeMap T none ∧ p.dst = some tm
  one : ∀ i o, ops[i]? = some o → o.op = .makeMap T none → i = jm
  dsts : ∀ (i : Nat) o, ops[i]? = some o → ∀ d, o.dst = some d → d < N
  tmv : val tm = .map (some n0)
  last : ∃ o dr x, ops[jr]? = some o ∧ o.op = .range T x ∧ x ∈ o.op.operands.toList ∧ evalV val x = .map (some n0) ∧ o.dst = some dr ∧ dr < N
  all : ∃ o jl p, ops[jr]? = some o ∧ ops[jl]? = some p ∧ jl + 1 = jr ∧ jr + 1 = ops.size ∧ (∃ e ∈ o.after, Region.binds .any e = true ∧ e.on = jl) ∧ ∀ j, j < jl → ∃ e ∈ p.after, Region.binds .any e = true ∧ e.on = j
  big : ops.size ≤ 1000000

def lastChk (ops : Array Oper) (jr : Nat) : Bool := match ops[jr]?, ops[jr - 1]? with
  | some o, some p => jr + 1 == ops.size && decide (0 < jr) && o.after.any (fun e => Region.binds .any e && e.on == jr - 1) && (List.range (jr - 1)).all (fun j => p.after.any (fun e => Region.binds .any e && e.on == j))
  | _, _ => false
theorem any_edge {o : Oper} {j : Nat} (h : o.after.any (fun e => Region.binds .any e && e.on == j) = true) : ∃ e ∈ o.after, Region.binds .any e = true ∧ e.on = j := by
  rw [← Array.any_toList] at h
  obtain ⟨e, he, h6⟩ := List.any_eq_true.1 h
  simp only [Bool.and_eq_true, beq_iff_eq] at h6
  exact ⟨e, Array.mem_toList_iff.1 he, h6.1, h6.2⟩
theorem LitReg.of {spec : List (Op × Option Tmp)} {tm : Tmp} {jm jr n0 N rx dr : Nat} (hs : ops.toList.map (fun o => (o.op, o.dst)) = spec) (chk : litChk ops = true)
    (kinds : ∀ (i : Nat) op dst, spec[i]? = some (op, dst) → i ≠ jr → LitOp T q val n0 tab tm op dst) (hmake : spec[jm]? = some (.makeMap T none, some tm))
    (hone : (spec.zipIdx.all fun p => match p.1.1 with | .makeMap .. => p.2 == jm | _ => true) = true) (hd : (spec.all fun p => match p.2 with | some d => decide (d < N) | none => true) = true)
    (tmv : val tm = .map (some n0)) (hlast : spec[jr]? = some (.range T (.tmp rx), some dr)) (hrx : val rx = .map (some n0)) (hall : lastChk ops jr = true) (big : ops.size ≤ 1000000) : LitReg P ops T K E q val tab tm jm jr n0 N := by
  have at_ : ∀ (i : Nat) o, ops[i]? = some o → spec[i]? = some (o.op, o.dst) := fun i o ho => by
    rw [← hs, List.getElem?_map]
    simp [ho]
  have back : ∀ (i : Nat) p, spec[i]? = some p → ∃ o, ops[i]? = some o ∧ o.op = p.1 ∧ o.dst = p.2 := fun i p hp => by
    rw [← hs, List.getElem?_map, Option.map_eq_some_iff] at hp
    obtain ⟨o, ho, rfl⟩ := hp
    exact ⟨o, by simpa using ho, rfl, rfl⟩
  refine ⟨chk, fun i o ho hne => kinds i _ _ (at_ i o ho) hne, back _ _ hmake, fun i o ho h => ?_, fun i o ho d h => ?_, tmv, ?_, ?_, big⟩
  · have := List.all_eq_true.1 hone ((o.op, o.dst), i) (by rw [List.mem_zipIdx_iff_getElem?]; exact at_ i o ho)
    rw [h] at this
    simpa using this
  · have := List.all_eq_true.1 hd (o.op, o.dst) (List.mem_of_getElem? (at_ i o ho))
    rw [h] at this
    simpa using this
  · obtain ⟨o, ho, h1, h2⟩ := back _ _ hlast
    have h3 := List.all_eq_true.1 hd _ (List.mem_of_getElem? hlast)
    exact ⟨o, dr, .tmp rx, ho, h1, by rw [h1]; simp [Op.operands], hrx, h2, by simpa using h3⟩
  · unfold lastChk at hall
    split at hall
    · rename_i o p ho hp
      simp only [Bool.and_eq_true, beq_iff_eq, decide_eq_true_eq] at hall
      obtain ⟨⟨⟨h1, h2⟩, h3⟩, h4⟩ := hall
      exact ⟨o, jr - 1, p, ho, hp, by omega, h1, any_edge h3, fun j hj => any_edge (List.all_eq_true.1 h4 j (List.mem_range.2 hj))⟩
    · cases hall

theorem getD_tf (l : Array Bool) (i : Nat) (hi : i < l.size) : l.getD i true = l.getD i false := by simp [Array.getD, hi]
theorem getB_set_other (l : Array Bool) (i j : Nat) (h : i ≠ j) (d : Bool) : (l.setIfInBounds i true).getD j d = l.getD j d := by
  simp [Array.getD_eq_getD_getElem?, h]
theorem getB_set_same (l : Array Bool) (i : Nat) (hi : i < l.size) (d : Bool) : (l.setIfInBounds i true).getD i d = true := by
  simp [Array.getD_eq_getD_getElem?, hi]
theorem ready_at {listed : Array Bool} {i : Nat} (h : i ∈ Region.ready .any ops listed) : ∃ o, ops[i]? = some o ∧ i < ops.size ∧ listed.getD i true = false ∧ ∀ e ∈ o.after, Region.binds .any e = true → listed.getD e.on false = true := by
  unfold Region.ready at h
  rw [List.mem_filter, List.mem_range] at h
  obtain ⟨h1, h2⟩ := h
  simp only [Bool.and_eq_true, Bool.not_eq_true'] at h2
  obtain ⟨h2, h3⟩ := h2
  cases ho : ops[i]? with
  | none => rw [ho] at h3; simp at h3
  | some o =>
    rw [ho] at h3
    simp only [Option.map_some, Option.getD_some] at h3
    refine ⟨o, rfl, h1, h2, fun e he hb => ?_⟩
    have := Array.all_eq_true_iff_forall_mem.1 h3 e he
    simpa [hb] using this
/-- An operand that stands. -/
theorem LitAt.eval {jm : Nat} {a0 a : Act} {w0 w : World} {listed : Array Bool} {fuel i : Nat} {o : Oper} (h : LitAt P ops K E q val tab jm a0 w0 listed fuel a w) (hd : LitDone ops i o)
    (hr : ∀ e ∈ o.after, Region.binds .any e = true → listed.getD e.on false = true) (x : Operand) (hx : x ∈ o.op.operands.toList) : a.eval x = evalV val x := by
  cases x with
  | tmp t =>
    rcases h.vals t with h1 | ⟨j, p, hj, hp, hl⟩
    · exact h1
    · obtain ⟨e, he, hb, rfl⟩ := hd.data t hx j p hj hp
      have := hr e he hb
      rw [hl] at this
      cases this
  | const v => rfl
  | global g => rfl
  | func f => rfl
theorem countP_set_true (l : List Bool) (i : Nat) (hi : i < l.length) (h : l[i] = false) : (l.set i true).countP (fun b => !b) + 1 = l.countP (fun b => !b) := by
  have h1 : 0 < l.countP (fun b => !b) := List.countP_pos_iff.2 ⟨l[i], List.getElem_mem hi, by rw [h]; rfl⟩
  rw [List.countP_set hi]
  simp [h]
  omega
/-- One operation more is done. -/
theorem LitAt.next {jm : Nat} {a0 a : Act} {w0 w w' : World} {listed : Array Bool} {fuel i : Nat} {o : Oper} (h : LitAt P ops K E q val tab jm a0 w0 listed (fuel + 1) a w) (ho : ops[i]? = some o) (hl : listed.getD i true = false)
    (hr : ∀ e ∈ o.after, Region.binds .any e = true → listed.getD e.on false = true) (v : Value) (hv : ∀ d, o.dst = some d → v = val d ∧ d < a0.tmps.size)
    (hmp : ∃ k, k + fuel ≤ ops.size ∧ MapAt P K E q tab w0 ((listed.setIfInBounds i true).getD jm false) k w') : LitAt P ops K E q val tab jm a0 w0 (listed.setIfInBounds i true) fuel (a.put o.dst v) w' := by
  have hi : i < listed.size := by rw [h.lsize]; exact (Array.getElem?_eq_some_iff.1 ho).1
  have hput : (a.put o.dst v).defers = a.defers ∧ (a.put o.dst v).tmps.size = a.tmps.size := by
    unfold Act.put
    split <;> simp
  refine ⟨hput.1.trans h.defers, hput.2.trans h.size, by simp [h.lsize], ?_, ?_, ?_, hmp⟩
  · have hc := h.cnt
    have hli : listed.toList[i]'(by simpa using hi) = false := by
      rw [getD_tf _ _ hi] at hl
      simpa [Array.getD, hi] using hl
    have := countP_set_true listed.toList i (by simpa using hi) hli
    rw [Array.toList_setIfInBounds]
    omega
  · intro j p hj hjl e he hb
    by_cases hij : i = j
    · subst hij
      rw [ho] at hj
      cases hj
      have := hr e he hb
      by_cases h2 : i = e.on
      · rw [← h2, getB_set_same _ _ hi]
      · rw [getB_set_other _ _ _ h2]; exact this
    · rw [getB_set_other _ _ _ hij] at hjl
      have := h.dc j p hj hjl e he hb
      by_cases h2 : i = e.on
      · rw [← h2, getB_set_same _ _ hi]
      · rw [getB_set_other _ _ _ h2]; exact this
  · intro t
    by_cases hd : o.dst = some t
    · obtain ⟨hv1, hv2⟩ := hv t hd
      left
      rw [hd, hv1]
      simp only [Act.put]
      have : t < a.tmps.size := by rw [h.size]; exact hv2
      simp [Array.getD_eq_getD_getElem?, this]
    · have hsame : (a.put o.dst v).tmps.getD t undef = a.tmps.getD t undef := by
        cases hod : o.dst with
        | none => rfl
        | some d =>
          have hne : d ≠ t := fun e => hd (by rw [hod, e])
          simp [Act.put, Array.getD_eq_getD_getElem?, hne]
      rw [hsame]
      rcases h.vals t with h1 | ⟨j, p, hj, hp, hjl⟩
      · exact .inl h1
      · right
        refine ⟨j, p, hj, hp, ?_⟩
        have hij : i ≠ j := by
          rintro rfl
          rw [ho] at hj
          cases hj
          exact hd hp
        rw [getB_set_other _ _ _ hij]
        exact hjl
theorem wpOp_of {Q : Exit → Act → World → Prop} {i : Nat} {o : Oper} {a : Act} {w : World} {K' : Act → World → Prop} (ho : ops[i]? = some o) (hg : o.guard = none) (h : o.wp P a w K' Q) : wpOp P ops Q i K' a w := by
  unfold wpOp
  rw [ho]
  dsimp only
  rw [if_pos (by simp [Region.wanted, hg])]
  exact .inl h
theorem MapAt.same {w0 w : World} {b b' : Bool} {k : Nat} (h : MapAt P K E q tab w0 b k w) (e : b' = b) : MapAt P K E q tab w0 b' k w := by rw [e]; exact h
/-- A step other than the last. -/
theorem litStep {tm : Tmp} {jm jr : Nat} {a0 a : Act} {w0 w : World} {listed : Array Bool} {fuel i : Nat} {Q : Exit → Act → World → Prop} (R : LitReg P ops T K E q val tab tm jm jr w0.heap.size a0.tmps.size)
    (law : Keyed P K) (hT : P.underlying T = some (.map K E)) (hK : P.underlying K = some .string) (hE : P.underlying E = some (.int q))
    (h : LitAt P ops K E q val tab jm a0 w0 listed (fuel + 1) a w) (hi : i ∈ Region.ready .any ops listed) (hne : i ≠ jr) (K' : Act → World → Prop)
    (hK' : ∀ a' w', LitAt P ops K E q val tab jm a0 w0 (listed.setIfInBounds i true) fuel a' w' → K' a' w') : wpOp P ops Q i K' a w := by
  obtain ⟨o, ho, his, hl, hr⟩ := ready_at hi
  have hd := litChk_at R.chk ho
  have hev := h.eval hd hr
  obtain ⟨k, hk, hm⟩ := h.mp
  obtain ⟨pm, hpm, hpmop, hpmd⟩ := R.make
  have hil : i < listed.size := by rw [h.lsize]; exact his
  refine wpOp_of ho hd.guard ?_
  -- of all kinds but 'make' the flag stays
  have flag : i ≠ jm → (listed.setIfInBounds i true).getD jm false = listed.getD jm false := fun hij => getB_set_other _ _ _ hij _
  cases R.kinds i o ho hne with
  | move d x h1 h2 h3 =>
    have hij : i ≠ jm := by
      rintro rfl
      rw [hpm] at ho
      cases ho
      rw [hpmop] at h1
      cases h1
    have hx := hev x (by rw [h1]; simp [Op.operands])
    unfold Oper.wp
    simp only [execOp, h1, hx]
    simp
    refine hK' _ _ (h.next ho hl hr _ (fun d' hd' => ?_) ⟨k, by omega, hm.same (flag hij)⟩)
    rw [h2] at hd'
    cases hd'
    exact ⟨h3.symm, R.dsts i o ho d h2⟩
  | add d x y S S' p r h1 h2 hx hy h3 hs =>
    have hij : i ≠ jm := by
      rintro rfl
      rw [hpm] at ho
      cases ho
      rw [hpmop] at h1
      cases h1
    have ex := hev x (by rw [h1]; simp [Op.operands])
    have ey := hev y (by rw [h1]; simp [Op.operands])
    unfold Oper.wp
    simp only [execOp, h1, ex, ey, hx, hy]
    have hbig : ¬ 9223372036854775807 < p.size + r.size := by omega
    simp [go_sem, Result.andThen, hbig]
    refine hK' _ _ (h.next ho hl hr _ (fun d' hd' => ?_) ⟨k, by omega, hm.same (flag hij)⟩)
    rw [h2] at hd'
    cases hd'
    exact ⟨h3.symm, R.dsts i o ho d h2⟩
  | make h1 h2 =>
    have hij : i = jm := R.one i o ho h1
    subst hij
    have hfl : listed.getD i false = false := by rw [← getD_tf _ _ hil]; exact hl
    have hsz := hm.2.1 hfl
    unfold Oper.wp
    simp only [execOp, h1]
    simp [run_makeMap, Result.andThen]
    refine hK' _ _ (h.next ho hl hr _ (fun d' hd' => ?_) ⟨0, by omega, ?_⟩)
    · rw [h2] at hd'
      cases hd'
      rw [R.tmv, hsz]
      exact ⟨rfl, R.dsts i o ho tm h2⟩
    · have hown := World.ownsMap_made w P K (plainElem (H := Unit) P E)
      rw [hsz] at hown
      refine ⟨hm.1.alloc (by omega) _, fun e => ?_, fun _ => ⟨_, hown, ⟨[], rfl, fun p hp => by cases hp⟩⟩⟩
      rw [getB_set_same _ _ hil] at e
      cases e
  | ins x v s c h1 h2 hkv hvv hw hs ht =>
    have hij : i ≠ jm := by
      rintro rfl
      rw [hpm] at ho
      cases ho
      rw [hpmop] at h1
      cases h1
    have em := hev (.tmp tm) (by rw [h1]; simp [Op.operands])
    have ex := hev x (by rw [h1]; simp [Op.operands])
    have ey := hev v (by rw [h1]; simp [Op.operands])
    have hmade : listed.getD jm false = true := by
      obtain ⟨e, he, hb, hon⟩ := hd.data tm (by rw [h1]; simp [Op.operands]) jm pm hpm hpmd
      have := hr e he hb
      rwa [hon] at this
    obtain ⟨D, hown, hgood⟩ := hm.2.2 hmade
    have hbig := R.big
    obtain ⟨w', hrun, hown', hgr⟩ := hown.update law hT (by unfold maxLen; omega) (key := .string s) (val := .int q c) (kl := .string s.data.toList) (d := .lit (.int q c)) (ps := [])
      (WideMaps.keyOf_string_mk hK (by unfold maxLen; omega)) (plainElem_int hE hw)
    unfold Oper.wp
    simp only [execOp, h1, em, ex, ey, hkv, hvv, show evalV val (.tmp tm) = .map (some w0.heap.size) from R.tmv]
    simp [hrun, Result.andThen]
    refine hK' _ _ (h.next ho hl hr _ (fun d' hd' => by rw [h2] at hd'; cases hd') ⟨k + 1, by omega, ?_⟩)
    refine ⟨hm.1.grown hgr hm.1.size (fun j hj => by cases hj; exact Nat.le_refl _), fun e => ?_, fun _ => ⟨_, hown', hgood.put ht⟩⟩
    rw [flag hij, hmade] at e
    cases e
/-- Something is ready as long as something is left. -/
theorem ready_some (hchk : litChk ops = true) {listed : Array Bool} (hls : listed.size = ops.size) : ∀ (n i : Nat), i ≤ n → i < ops.size → listed.getD i false = false → Region.ready .any ops listed ≠ [] := by
  intro n
  induction n with
  | zero =>
    intro i hi his hl e
    obtain rfl : i = 0 := by omega
    have hd := litChk_at hchk (Array.getElem?_eq_getElem his)
    have : 0 ∈ Region.ready .any ops listed := by
      unfold Region.ready
      rw [List.mem_filter, List.mem_range]
      refine ⟨his, ?_⟩
      rw [getD_tf _ _ (by omega), hl, Array.getElem?_eq_getElem his]
      simp only [Bool.not_false, Bool.true_and, Option.map_some, Option.getD_some]
      rw [Array.all_eq_true_iff_forall_mem]
      intro e he
      cases hb : Region.binds .any e
      · simp
      · have := hd.low e he hb
        omega
    rw [e] at this
    cases this
  | succ n ih =>
    intro i hi his hl
    by_cases hall : ∀ j, j < i → listed.getD j false = true
    · intro e
      have hd := litChk_at hchk (Array.getElem?_eq_getElem his)
      have : i ∈ Region.ready .any ops listed := by
        unfold Region.ready
        rw [List.mem_filter, List.mem_range]
        refine ⟨his, ?_⟩
        rw [getD_tf _ _ (by omega), hl, Array.getElem?_eq_getElem his]
        simp only [Bool.not_false, Bool.true_and, Option.map_some, Option.getD_some]
        rw [Array.all_eq_true_iff_forall_mem]
        intro e he
        cases hb : Region.binds .any e
        · simp
        · have := hd.low e he hb
          simp [hall _ this]
      rw [e] at this
      cases this
    · obtain ⟨j, hj⟩ := Classical.not_forall.1 hall
      obtain ⟨hj1, hj2⟩ := Classical.not_imp.1 hj
      exact ih j (by omega) (by omega) (by simpa using hj2)
theorem wpAny_lit {tm : Tmp} {jm jr : Nat} {a0 : Act} {w0 : World} {Q : Exit → Act → World → Prop} (R : LitReg P ops T K E q val tab tm jm jr w0.heap.size a0.tmps.size)
    (law : Keyed P K) (hT : P.underlying T = some (.map K E)) (hK : P.underlying K = some .string) (hE : P.underlying E = some (.int q))
    (hQ : ∀ a w k D r, a.defers = a0.defers → a.tmps.size = a0.tmps.size → (∀ t, (∀ o, ops[jr]? = some o → o.dst ≠ some t) → a.tmps.getD t undef = val t) → (∀ o d, ops[jr]? = some o → o.dst = some d → a.tmps.getD d undef = .pointer (some ⟨r, 0, none⟩)) →
      GoodD q tab D → w.ranges P K (plainElem P E) w0.heap.size r k D (Maps.has D) (Maps.size D) → w0.heap.size < r → r < w.heap.size → Below w0.heap.size w0 w → Q .normal a w) :
    ∀ (fuel : Nat) (listed : Array Bool) (a : Act) (w : World), listed.getD jr false = false → LitAt P ops K E q val tab jm a0 w0 listed fuel a w → wpAny P .any ops Q fuel listed a w := by
  obtain ⟨ol, dr, xl, hol, hlop, hlx, hlev, hld, hdr⟩ := R.last
  have hjs : jr < ops.size := (Array.getElem?_eq_some_iff.1 hol).1
  intro fuel
  induction fuel with
  | zero =>
    intro listed a w hj h
    have hc := h.cnt
    rw [List.countP_eq_zero] at hc
    have hjl : jr < listed.size := by rw [h.lsize]; exact hjs
    have := hc (listed[jr]) (by simp)
    have e : listed[jr] = false := by simpa [Array.getD, hjl] using hj
    rw [e] at this
    simp at this
  | succ fuel ih =>
    intro listed a w hj h
    refine ⟨fun hr => absurd hr (ready_some R.chk h.lsize jr jr (Nat.le_refl _) hjs hj), fun i hi => ?_⟩
    by_cases hij : i = jr
    · subst hij
      obtain ⟨o, ho, his, hl, hr⟩ := ready_at hi
      rw [hol] at ho
      cases ho
      have hd := litChk_at R.chk hol
      have ex := h.eval hd hr xl hlx
      obtain ⟨o', jl, p, ho', hp, hjl, hjr, ⟨e, he, hb, hon⟩, hrest⟩ := R.all
      rw [hol] at ho'
      cases ho'
      have hjll : listed.getD jl false = true := by
        have := hr e he hb
        rwa [hon] at this
      have hall : ∀ j, j < i → listed.getD j false = true := fun j hj => by
        by_cases hjj : j = jl
        · rw [hjj]; exact hjll
        · obtain ⟨e2, he2, hb2, hon2⟩ := hrest j (by omega)
          have := h.dc jl p hp hjll e2 he2 hb2
          rwa [hon2] at this
      obtain ⟨pm, hpm, hpmop, hpmd⟩ := R.make
      have hjm : jm < i := by
        have h1 : jm < ops.size := (Array.getElem?_eq_some_iff.1 hpm).1
        have h2 : jm ≠ i := by
          intro e
          rw [e, hol] at hpm
          cases hpm
          rw [hlop] at hpmop
          cases hpmop
        omega
      obtain ⟨k, hk, hm⟩ := h.mp
      obtain ⟨D, hown, hgood⟩ := hm.2.2 (hall jm hjm)
      obtain ⟨w', hrun, hrg, hgr, hsz⟩ := hown.range law hT
      refine wpOp_of hol hd.guard ?_
      unfold Oper.wp
      simp only [execOp, hlop, ex, hlev]
      simp [hrun, Result.andThen]
      have hfin : Q .normal (a.put ol.dst (.pointer (some ⟨w.heap.size, 0, none⟩))) w' := by
        have hds : dr < a.tmps.size := by rw [h.size]; exact hdr
        refine hQ _ _ k D w.heap.size ?_ ?_ (fun t ht => ?_) (fun o d ho hd2 => ?_) hgood hrg hown.lt (by omega) (hm.1.grown hgr hm.1.size (fun j hj => by cases hj))
        · rw [hld]; exact h.defers
        · rw [hld]; simp [Act.put, h.size]
        · have hne : dr ≠ t := fun e => ht ol hol (by rw [hld, e])
          rw [hld]
          simp only [Act.put]
          rw [Array.getD_eq_getD_getElem?, Array.getElem?_setIfInBounds_ne hne, ← Array.getD_eq_getD_getElem?]
          rcases h.vals t with h1 | ⟨j, p2, hj2, hp2, hjl2⟩
          · exact h1
          · exfalso
            by_cases hji : j = i
            · rw [hji, hol] at hj2
              cases hj2
              rw [hld] at hp2
              exact hne (Option.some.inj hp2)
            · have hjs2 : j < ops.size := (Array.getElem?_eq_some_iff.1 hj2).1
              rw [hall j (by omega)] at hjl2
              cases hjl2
        · rw [hol] at ho
          cases ho
          rw [hld] at hd2
          cases hd2
          rw [hld]
          simp [Act.put, Array.getD_eq_getD_getElem?, hds]
      have hrdy : Region.ready .any ops (listed.setIfInBounds i true) = [] := by
        unfold Region.ready
        rw [List.filter_eq_nil_iff]
        intro j hj
        rw [List.mem_range] at hj
        have : (listed.setIfInBounds i true).getD j true = true := by
          have hil : i < listed.size := by rw [h.lsize]; exact hjs
          by_cases hji : i = j
          · rw [← hji, getB_set_same _ _ hil]
          · rw [getB_set_other _ _ _ hji, getD_tf _ _ (by rw [h.lsize]; exact hj)]
            exact hall j (by omega)
        rw [this]
        simp
      cases fuel with
      | zero => exact ⟨hrdy, hfin⟩
      | succ f => exact ⟨fun _ => hfin, fun j hj => by rw [hrdy] at hj; cases hj⟩
    · exact litStep R law hT hK hE h hi hij _ fun a' w' h' => ih _ a' w' (by rw [getB_set_other _ _ _ hij]; exact hj) h'
/-- The region. -/
theorem wp_maplit {id : Nat} {tm : Tmp} {jm jr : Nat} {a0 : Act} {w0 : World} {Q : Exit → Act → World → Prop} (hm : P.follows .mixedOrders = true) (R : LitReg P ops T K E q val tab tm jm jr w0.heap.size a0.tmps.size)
    (law : Keyed P K) (hT : P.underlying T = some (.map K E)) (hK : P.underlying K = some .string) (hE : P.underlying E = some (.int q))
    (hval : ∀ t, a0.tmps.getD t undef = val t ∨ ∃ (j : Nat) (p : Oper), ops[j]? = some p ∧ p.dst = some t)
    (hQ : ∀ a w k D r, a.defers = a0.defers → a.tmps.size = a0.tmps.size → (∀ t, (∀ o, ops[jr]? = some o → o.dst ≠ some t) → a.tmps.getD t undef = val t) → (∀ o d, ops[jr]? = some o → o.dst = some d → a.tmps.getD d undef = .pointer (some ⟨r, 0, none⟩)) →
      GoodD q tab D → w.ranges P K (plainElem P E) w0.heap.size r k D (Maps.has D) (Maps.size D) → w0.heap.size < r → r < w.heap.size → Below w0.heap.size w0 w → Q .normal a w) :
    (Code.region id ops true).wp P Q a0 w0 := by
  refine wp_region_any hm ?_
  have hjs : jr < ops.size := by
    obtain ⟨ol, dr, xl, hol, _⟩ := R.last
    exact (Array.getElem?_eq_some_iff.1 hol).1
  have hrep : ∀ j (d : Bool), d = false → (Array.replicate ops.size false).getD j d = false := fun j d hd => by
    subst hd
    simp only [Array.getD_eq_getD_getElem?, Array.getElem?_replicate]
    split <;> rfl
  have R' : LitReg P ops T K E q val tab tm jm jr ({ w0 with drawn := w0.drawn + 1 } : World).heap.size a0.tmps.size := R
  refine wpAny_lit (w0 := { w0 with drawn := w0.drawn + 1 }) R' law hT hK hE (fun a w k D r h1 h2 h3 h4 h5 h6 h7 h8 h9 => hQ a w k D r h1 h2 h3 h4 h5 h6 h7 h8 (Below.trans (Below.refl _ _).drew h9)) ops.size _ _ _ (hrep _ _ rfl) ?_
  refine ⟨rfl, rfl, by simp, by simp [List.countP_replicate], fun i o _ h => ?_, fun t => ?_, ⟨0, by omega, Below.refl _ _, fun _ => rfl, fun h => ?_⟩⟩
  · rw [hrep _ _ rfl] at h
    cases h
  · rcases hval t with h | ⟨j, p, h1, h2⟩
    · exact .inl h
    · exact .inr ⟨j, p, h1, h2, hrep _ _ rfl⟩
  · rw [hrep _ _ rfl] at h
    cases h
theorem lookup_mem {l : List (Tmp × Value)} {t : Tmp} {v : Value} (h : l.lookup t = some v) : ∃ p ∈ l, p.1 = t := by
  induction l with
  | nil => cases h
  | cons x l ih =>
    obtain ⟨a, b⟩ := x
    rw [List.lookup_cons] at h
    split at h
    · rename_i e
      exact ⟨(a, b), by simp, (beq_iff_eq.1 e).symm⟩
    · obtain ⟨p, hp, e⟩ := ih h
      exact ⟨p, by simp [hp], e⟩
theorem val_or {spec : List (Op × Option Tmp)} (hs : ops.toList.map (fun o => (o.op, o.dst)) = spec) (l : List (Tmp × Value)) (base : Tmp → Value) (hk : (l.all fun p => spec.any fun s => s.2 == some p.1) = true) (t : Tmp) :
    base t = valOf l base t ∨ ∃ (j : Nat) (p : Oper), ops[j]? = some p ∧ p.dst = some t := by
  unfold valOf
  cases h : l.lookup t with
  | none => exact .inl rfl
  | some v =>
    right
    obtain ⟨p, hp, rfl⟩ := lookup_mem h
    obtain ⟨x, hx, e⟩ := List.any_eq_true.1 (List.all_eq_true.1 hk p hp)
    rw [← hs] at hx
    obtain ⟨o, ho, rfl⟩ := List.mem_map.1 hx
    obtain ⟨j, hj⟩ := List.mem_iff_getElem?.1 ho
    exact ⟨j, o, by simpa using hj, by simpa using e⟩
theorem frame_is (a : Act) (d : Tmp) (pv : Value) (N : Nat) (hN : a.tmps.size = N) (hd : a.defers = []) (hv : ∀ t, t ≠ d → a.tmps.getD t undef = val t) (hp : a.tmps.getD d undef = pv) :
    a = ⟨((List.range N).map fun t => if t == d then pv else val t).toArray, []⟩ := by
  obtain ⟨tm, df⟩ := a
  dsimp only at hN hd hv hp
  subst hd
  congr 1
  apply Array.ext
  · simp [hN]
  · intro i h1 h2
    have e : tm[i] = tm.getD i undef := by simp [Array.getD, h1]
    rw [e]
    simp only [List.getElem_toArray, List.getElem_map, List.getElem_range]
    by_cases hi : i = d
    · subst hi
      simpa using hp
    · rw [if_neg (by simpa using hi)]
      exact hv i hi
end
end Go.Proofs.YtghigiapfmlkbaaGreatDoor
