/- Abstract walk over contents given by functions, part 13: what an operation comes to, worked out. -/
import Derived.Test.YticpndkcicgenaaDoorBw12
set_option linter.unusedVariables false
set_option linter.unusedSimpArgs false
namespace Go.Bw
open Go.RowKit

abbrev Fr := List (Nat × AV)
def look (t : Nat) : Fr → Option AV
  | [] => none
  | (k, v) :: l => bif Nat.beq t k then some v else look t l
theorem look_eq (t : Nat) : ∀ fr : Fr, look t fr = fr.lookup t
  | [] => rfl
  | (k, v) :: l => by
    unfold look
    rw [List.lookup_cons]
    cases h : Nat.beq t k with
    | true => have : t = k := Nat.eq_of_beq_eq_true h; subst this; simp
    | false =>
      have : (t == k) = false := by
        cases h2 : (t == k) with
        | true => have : t = k := by simpa using h2
                  subst this; simp [Nat.beq_refl] at h
        | false => rfl
      rw [this]; exact look_eq t l
def aevL (fr : Fr) : Operand → Option AV
  | .tmp t => look t fr
  | .const v => match okVB v with | true => some (RV v) | false => none
  | .global g => some (RV (.pointer (some ⟨g, 0, none⟩)))
  | .func f => some (RV (.func (.func f) #[] #[]))
theorem aevL_eq {fr : Fr} {x : Operand} : aevL fr x = aev fr x := by
  cases x with
  | tmp t => exact look_eq t fr
  | const v => simp only [aevL, aev]; cases okVB v <;> rfl
  | global g => rfl
  | func f => rfl
def lookI (id : Id) : MOut → Option AObj
  | [] => none
  | (i, o) :: l => bif idEq id i then o else lookI id l
theorem lookI_eq (id : Id) : ∀ m : MOut, lookI id m = ofOut m id
  | [] => rfl
  | (i, o) :: l => by
    unfold lookI ofOut
    rw [List.lookup_cons, idEq_eq]
    cases h : (id == i) with
    | true => simp
    | false => simp only [cond_false]; exact lookI_eq id l
def pickId (d : Nat) (ids : List Id) : Nat → Nat → Id
  | 0, c => (d, c)
  | n + 1, c => bif idHas (d, c) ids then pickId d ids n (c + 1) else (d, c)

/-- The record of an operation that was worked out: 's' must hold and can be seen, 'a' is on numbers, 'b' is another condition. -/
structure Rc where
  s : Bool
  a : Option Prop
  b : Option Prop
  rd : MIn
  wi : MIn
  wo : MOut
  nw : MIn
  v : AV
def Good (P : Program) (G : List (Addr × Value)) (o : Oper) (ae : Operand → Option AV) (m : MOut) (ids : List Id) (r : Rc) : Prop :=
  OpS P G o ae r.rd r.wi r.wo r.nw r.v ∧ Sub r.rd m ∧ Sub r.wi m ∧ keys r.wo = keys r.wi ∧ fresh ids r.nw = true
def qc (a : Option Prop) (v : AV) : Option Rc := some ⟨true, a, none, [], [], [], [], v⟩
def sc (s : Bool) (a : Option Prop) (v : AV) : Option Rc := some ⟨s, a, none, [], [], [], [], v⟩
section
variable {P : Program} {G : List (Addr × Value)} {o : Oper} {ae : Operand → Option AV} {m : MOut} {ids : List Id} {x y z : Operand} {T yT : TypeId} {s : Bool} {a b : Option Prop} {v : AV}
theorem Good.q (h : OpS P G o ae [] [] [] [] v) : Good P G o ae m ids ⟨s, a, b, [], [], [], [], v⟩ := ⟨h, trivial, trivial, rfl, rfl⟩
theorem Good.rdo {id : Id} {ob : AObj} (h : OpS P G o ae [(id, ob)] [] [] [] v) (hm : lookI id m = some ob) : Good P G o ae m ids ⟨s, a, b, [(id, ob)], [], [], [], v⟩ := ⟨h, ⟨by rw [← lookI_eq]; exact hm, trivial⟩, trivial, rfl, rfl⟩
theorem Good.st {id : Id} {ob ob' : AObj} (h : OpS P G o ae [] [(id, ob)] [(id, some ob')] [] v) (hm : lookI id m = some ob) : Good P G o ae m ids ⟨s, a, b, [], [(id, ob)], [(id, some ob')], [], v⟩ := ⟨h, trivial, ⟨by rw [← lookI_eq]; exact hm, trivial⟩, rfl, rfl⟩
theorem fresh_of {id : Id} {ob : AObj} (h : idHas id ids = false) : fresh ids [(id, ob)] = true := by
  rw [idHas_eq] at h
  simp only [fresh, keys, List.map_cons, List.map_nil, List.all_cons, List.all_nil, h]
  rfl
theorem Good.new {id : Id} {ob : AObj} (h : OpS P G o ae [] [] [] [(id, ob)] v) (hn : (!idHas id ids) = true) : Good P G o ae m ids ⟨s, a, b, [], [], [], [(id, ob)], v⟩ := ⟨h, trivial, trivial, rfl, fresh_of (by simpa using hn)⟩

/-! ### pure operations -/
def binR (t : Tr) (op : BinOp) (T : TypeId) (va vb : AV) : Option Rc :=
  match va, vb with
  | .one (.d (.raw (.int k a))), .one (.d (.raw (.int k' b))) =>
    match shA op k a b with
    | some (c, u) => qc c (RV u)
    | none => match binA op k a b with
      | some (c, u) => sc (decide (k = k')) c (RV u)
      | none => none
  | .one (.d (.raw (.string ⟨⟨a⟩⟩))), .one (.d (.raw (.string ⟨⟨b⟩⟩))) =>
    match op with
    | .add => qc (some (a.length + b.length ≤ 9223372036854775807)) (AL (a ++ b))
    | .eql => qc none (AB (sb (a = b)))
    | .neq => qc none (AB (sb (a ≠ b)))
    | _ => none
  | .one (.d (.raw (.bool a))), .one (.d (.raw (.bool b))) =>
    match t.get T with
    | some (X, _) => match X.k with
      | .bool => match op with
        | .eql => qc none (AB (a == b))
        | .neq => qc none (AB (a != b))
        | _ => none
      | _ => none
    | none => none
  | va, vb =>
    match isNil va, isNil vb with
    | some a, some b =>
      match t.get T with
      | some (X, _) => match X.k with
        | .pointer _ => match op with
          | .eql => sc (a || b) none (AB (a && b))
          | .neq => sc (a || b) none (AB (!(a && b)))
          | _ => none
        | _ => none
      | none => none
    | _, _ => none
theorem binR_ok (Xt : Tab P) {op : BinOp} {va vb : AV} {r : Rc} (h : binR Xt.t op T va vb = some r) (ho : o.op = .binOp op T x y yT) (hx : ae x = some va) (hy : ae y = some vb) (hs : r.s = true) (ha : Holds r.a) : Good P G o ae m ids r := by
  unfold binR at h
  split at h
  · rename_i k a k' b
    split at h
    · rename_i c u hsh
      cases h
      exact .q (OpS.shift ho hx hy hsh ha)
    · split at h
      · rename_i c u hb
        cases h
        have : k = k' := by simpa using hs
        subst this
        exact .q (OpS.bin ho hx hy hb ha)
      · cases h
  · rename_i a b
    split at h
    · cases h; exact .q (OpS.cat ho hx hy ha)
    · cases h; exact .q (OpS.eqS ho hx hy)
    · cases h; exact .q (OpS.neS ho hx hy)
    · cases h
  · split at h
    · rename_i X zz hT
      split at h
      · rename_i hk
        split at h
        · cases h; exact .q (OpS.eqB ho hx hy (Xt.get hT).ti hk)
        · cases h; exact .q (OpS.neB ho hx hy (Xt.get hT).ti hk)
        · cases h
      · cases h
    · cases h
  · split at h
    · rename_i na nb
      split at h
      · rename_i X zz hT
        split at h
        · rename_i e hk
          split at h
          · cases h
            exact .q (OpS.eqNil (op := .eql) ho (.inl rfl) hx hy na nb hs (Xt.get hT).ti hk)
          · cases h
            exact .q (OpS.eqNil (op := .neq) ho (.inr rfl) hx hy na nb hs (Xt.get hT).ti hk)
          · cases h
        · cases h
      · cases h
    · cases h

def unR (op : UnOp) (va : AV) : Option Rc :=
  match va with
  | .one (.d (.raw u)) => match unA op u with
    | some (c, w) => qc c (RV w)
    | none => none
  | _ => none
theorem unR_ok {op : UnOp} {va : AV} {r : Rc} (h : unR op va = some r) (ho : o.op = .unOp op T x) (hx : ae x = some va) (ha : Holds r.a) : Good P G o ae m ids r := by
  unfold unR at h
  split at h
  · split at h
    · rename_i c w hu
      cases h
      exact .q (OpS.un ho hx hu ha)
    · cases h
  · cases h

/-- A source of elements. -/
def srcA (m : MOut) (va : AV) : Option (MIn × Nat × Nat × (Nat → Nat → D) × Option Prop) :=
  match va with
  | .one (.d (.lst k n g)) => some ([], k, n, g, none)
  | .one (.sl id lo n) => match lookI id m with
    | some (.row e k nn g) => some ([(id, .row e k nn g)], k, n, sh lo g, some (lo + n ≤ nn))
    | _ => none
  | _ => none
theorem srcA_ok {va : AV} {rd : MIn} {k n : Nat} {g : Nat → Nat → D} {c : Option Prop} (h : srcA m va = some (rd, k, n, g, c)) (hx : ae x = some va) (hc : Holds c) : Src ae x rd k n g ∧ Sub rd m := by
  unfold srcA at h
  split at h
  · cases h; exact ⟨.lst hx, trivial⟩
  · split at h
    · rename_i hm
      cases h
      exact ⟨.row hx hc, by rw [lookI_eq] at hm; exact ⟨hm, trivial⟩⟩
    · cases h
  · cases h

def convR (t : Tr) (m : MOut) (src dst : TypeId) (va : AV) : Option Rc :=
  match t.get src, t.get dst with
  | some (Y, _), some (X, _) =>
    match X.k with
    | .int k => match va with
      | .one (.d (.raw (.int j a))) => qc (convA j k a) (AI k a)
      | _ => none
    | .string => match Y.k with
      | .slice e => match t.get e with
        | some (Z, _) => match Z.k with
          | .int .u8 => match va with
            | .one (.d (.raw (.slice none 0 0))) => qc none (AL [])
            | va => match srcA m va with
              | some (rd, k, n, g, c) => some ⟨Nat.beq k 1, c, some (∀ i, i < n → ∃ a, g i 0 = .raw (.int .u8 a)), rd, [], [], [], AL (bytesOf n g)⟩
              | none => none
          | _ => none
        | none => none
      | _ => none
    | .slice e => match t.get e with
      | some (Z, _) => match Z.k with
        | .int .u8 => match va with
          | .one (.d (.raw (.string ⟨⟨l⟩⟩))) => qc (some (l.length ≤ 9223372036854775807)) (.one (.d (.lst 1 l.length fun i _ => byteD (l.getD i 0))))
          | _ => none
        | _ => none
      | none => none
    | _ => none
  | _, _ => none
theorem convR_ok (Xt : Tab P) {src dst : TypeId} {va : AV} {r : Rc} (h : convR Xt.t m src dst va = some r) (ho : o.op = .convert src dst x) (hx : ae x = some va) (hs : r.s = true) (ha : Holds r.a) (hb : Holds r.b) : Good P G o ae m ids r := by
  unfold convR at h
  split at h
  · rename_i Y z1 X z2 h1 h2
    split at h
    · rename_i k hk
      split at h
      · cases h; exact .q (OpS.conv ho hx (Xt.get h1).ti (Xt.get h2).ti hk ha)
      · cases h
    · rename_i hk
      split at h
      · rename_i e he
        split at h
        · rename_i Z z3 h3
          split at h
          · rename_i hz
            split at h
            · cases h
              refine .q ?_
              have := OpS.toStr (G := G) ho (.nil (g := fun _ _ => .raw undef) hx) (fun i hi => by omega) (Xt.get h1).ti he (Xt.get h3).ti hz (Xt.get h2).ti hk
              exact this
            · split at h
              · rename_i rd k n g c hsr
                cases h
                have hk1 : k = 1 := Nat.eq_of_beq_eq_true hs
                subst hk1
                obtain ⟨h4, h5⟩ := srcA_ok hsr hx ha
                exact ⟨OpS.toStr ho h4 hb (Xt.get h1).ti he (Xt.get h3).ti hz (Xt.get h2).ti hk, h5, trivial, rfl, rfl⟩
              · cases h
          · cases h
        · cases h
      · cases h
    · rename_i e hk
      split at h
      · rename_i Z z3 h3
        split at h
        · rename_i hz
          split at h
          · cases h; exact .q (OpS.toBytes ho hx (Xt.get h2).ti hk (Xt.get h3).ti hz (Xt.get h1).ti ha)
          · cases h
        · cases h
      · cases h
    · cases h
  · cases h

/-! ### memory -/
def allocR (t : Tr) (ids : List Id) (d : Nat) (T : TypeId) : Option Rc :=
  match t.get T with
  | some (X, z) => match pickId d ids 8 0 with
    | (ia, ib) => some ⟨!idHas (ia, ib) ids, none, none, [], [], [], [((ia, ib), .var X.size fun j => .d (.raw (z j)))], .one (.ptr (ia, ib) 0)⟩
  | none => none
theorem allocR_ok (Xt : Tab P) {d : Nat} {r : Rc} (h : allocR Xt.t ids d T = some r) (ho : o.op = .alloc T) (hs : r.s = true) : Good P G o ae m ids r := by
  unfold allocR at h
  split at h
  · rename_i X z hT
    generalize pickId d ids 8 0 = pk at h
    obtain ⟨ia, ib⟩ := pk
    simp only at h
    cases h
    exact .new (OpS.alloc _ ho (Xt.get hT)) hs
  · cases h
def boxR (ids : List Id) (d : Nat) (va : AV) : Option Rc :=
  match upk va with
  | some (k, g) => match pickId d ids 8 0 with
    | (ia, ib) => some ⟨!idHas (ia, ib) ids, none, none, [], [], [], [((ia, ib), .var k g)], .one (.ptr (ia, ib) 0)⟩
  | none => none
theorem boxR_ok {d : Nat} {va : AV} {r : Rc} (h : boxR ids d va = some r) (ho : o.op = .box T x) (hx : ae x = some va) (hs : r.s = true) : Good P G o ae m ids r := by
  unfold boxR at h
  split at h
  · rename_i k g hu
    generalize pickId d ids 8 0 = pk at h
    obtain ⟨ia, ib⟩ := pk
    simp only at h
    cases h
    exact .new (OpS.box _ ho hx hu) hs
  · cases h
def loadR (t : Tr) (m : MOut) (T : TypeId) (va : AV) : Option Rc :=
  match t.get T with
  | some (X, _) => match va with
    | .one (.ptr id off) => match lookI id m with
      | some (.var k g) => some ⟨Nat.ble (off + X.size) k, none, none, [(id, .var k g)], [], [], [], pkA X.k.agg X.size off g⟩
      | _ => none
    | .one (.ptrR id i j) => match lookI id m with
      | some (.row e k n g) => some ⟨Nat.ble (j + X.size) k, some (i < n), none, [(id, .row e k n g)], [], [], [], pkA X.k.agg X.size j fun q => .d (g i q)⟩
      | some (.rowC e k n g) => some ⟨Nat.ble (j + X.size) k, some (i < n), none, [(id, .rowC e k n g)], [], [], [], pkA X.k.agg X.size j (g i)⟩
      | _ => none
    | .one (.d (.fptr k g)) => sc (Nat.ble X.size k) none (pkA X.k.agg X.size 0 fun q => .d (g q))
    | _ => none
  | none => none
theorem loadR_ok (Xt : Tab P) {va : AV} {r : Rc} (h : loadR Xt.t m T va = some r) (ho : o.op = .load T x) (hx : ae x = some va) (hs : r.s = true) (ha : Holds r.a) : Good P G o ae m ids r := by
  unfold loadR at h
  split at h
  · rename_i X z hT
    have hX := Xt.get hT
    split at h
    · split at h
      · rename_i hm
        cases h
        exact .rdo (OpS.load ho hx hX.ti hX.one (Nat.le_of_ble_eq_true hs)) hm
      · cases h
    · split at h
      · rename_i hm
        cases h
        exact .rdo (OpS.loadR ho hx hX.ti hX.one ha (Nat.le_of_ble_eq_true hs)) hm
      · rename_i hm
        cases h
        exact .rdo (OpS.loadRC ho hx hX.ti hX.one ha (Nat.le_of_ble_eq_true hs)) hm
      · cases h
    · cases h
      exact .q (OpS.loadF ho hx hX.ti hX.one (Nat.le_of_ble_eq_true hs))
    · cases h
  · cases h
def storeR (t : Tr) (m : MOut) (T : TypeId) (va vb : AV) : Option Rc :=
  match t.get T with
  | some (X, _) => match upk vb with
    | some (s, c) => match va with
      | .one (.ptr id off) => match lookI id m with
        | some (.var k g) => some ⟨Nat.beq s X.size && Nat.ble (off + X.size) k, none, none, [], [(id, .var k g)], [(id, some (.var k (setV k off X.size c g)))], [], .tup 0 (fun _ => junkA)⟩
        | _ => none
      | .one (.ptrR id i j) => match lookI id m with
        | some (.row e k n g) => some ⟨Nat.beq s X.size && Nat.ble (j + X.size) k && closedTo X.size c, some (i < n), none, [], [(id, .row e k n g)], [(id, some (.row e k n (updR i (setV k j X.size (fun q => (c q).toD) (g i)) g)))], [], .tup 0 (fun _ => junkA)⟩
        | some (.rowC e k n g) => some ⟨Nat.beq s X.size && Nat.ble (j + X.size) k, some (i < n), none, [], [(id, .rowC e k n g)], [(id, some (.rowC e k n (updR i (setV k j X.size c (g i)) g)))], [], .tup 0 (fun _ => junkA)⟩
        | _ => none
      | _ => none
    | none => none
  | none => none
theorem storeR_ok (Xt : Tab P) {va vb : AV} {r : Rc} (h : storeR Xt.t m T va vb = some r) (ho : o.op = .store T x y) (hx : ae x = some va) (hy : ae y = some vb) (hs : r.s = true) (ha : Holds r.a) : Good P G o ae m ids r := by
  unfold storeR at h
  split at h
  · rename_i X z hT
    have hX := Xt.get hT
    split at h
    · rename_i s c hu
      split at h
      · split at h
        · rename_i hm
          cases h
          simp only [Bool.and_eq_true] at hs
          have h1 : s = X.size := Nat.eq_of_beq_eq_true hs.1
          subst h1
          exact .st (OpS.store ho hx hy hu hX.ti (Nat.le_of_ble_eq_true hs.2)) hm
        · cases h
      · split at h
        · rename_i hm
          cases h
          simp only [Bool.and_eq_true] at hs
          have h1 : s = X.size := Nat.eq_of_beq_eq_true hs.1.1
          subst h1
          exact .st (OpS.storeR ho hx hy hu hs.2 hX.ti ha (Nat.le_of_ble_eq_true hs.1.2)) hm
        · rename_i hm
          cases h
          simp only [Bool.and_eq_true] at hs
          have h1 : s = X.size := Nat.eq_of_beq_eq_true hs.1
          subst h1
          exact .st (OpS.storeRC ho hx hy hu hX.ti ha (Nat.le_of_ble_eq_true hs.2)) hm
        · cases h
      · cases h
    · cases h
  · cases h
def nilR (va : AV) : Option Rc :=
  match isNil va with
  | some b => sc (!b) none va
  | none => none
theorem nilR_ok {va : AV} {r : Rc} (h : nilR va = some r) (ho : o.op = .nilCheck x) (hx : ae x = some va) (hs : r.s = true) : Good P G o ae m ids r := by
  unfold nilR at h
  split at h
  · rename_i b hb
    cases h
    have : b = false := by simpa using hs
    subst this
    exact .q (OpS.nilC ho hx hb)
  · cases h
def fldAR (t : Tr) (T : TypeId) (i : Nat) (va : AV) : Option Rc :=
  match t.get T with
  | some (X, _) => match X.k with
    | .struct fs => match nthO fs i with
      | some (fo, T') => match t.get T' with
        | some (Y, _) => match va with
          | .one (.ptr id off) => sc (!Nat.beq Y.size 0) none (.one (.ptr id (off + fo)))
          | .one (.ptrR id i0 j) => sc (!Nat.beq Y.size 0) none (.one (.ptrR id i0 (j + fo)))
          | .one (.d (.fptr k g)) => sc (!Nat.beq Y.size 0 && Nat.ble (fo + Y.size) k) none (.one (.d (fsub Y.size fo g)))
          | _ => none
        | none => none
      | none => none
    | _ => none
  | none => none
theorem beq_zero {n : Nat} (h : (!Nat.beq n 0) = true) : n ≠ 0 := by
  intro e; subst e; simp at h
theorem fldAR_ok (Xt : Tab P) {i : Nat} {va : AV} {r : Rc} (h : fldAR Xt.t T i va = some r) (ho : o.op = .fieldAddr T x i) (hx : ae x = some va) (hs : r.s = true) : Good P G o ae m ids r := by
  unfold fldAR at h
  split at h
  · rename_i X z hT
    split at h
    · rename_i fs hk
      split at h
      · rename_i fo T' hf
        rw [nthO_eq] at hf
        split at h
        · rename_i Y z' hT'
          split at h
          · cases h; exact .q (OpS.fldPtr ho hx (Xt.get hT).ti hk hf (Xt.get hT').ti (beq_zero hs))
          · cases h; exact .q (OpS.fldPtrR ho hx (Xt.get hT).ti hk hf (Xt.get hT').ti (beq_zero hs))
          · cases h
            simp only [Bool.and_eq_true] at hs
            exact .q (OpS.fldF ho hx (Xt.get hT).ti hk hf (Xt.get hT').ti (beq_zero hs.1) (Nat.le_of_ble_eq_true hs.2))
          · cases h
        · cases h
      · cases h
    · cases h
  · cases h
def idxAR (t : Tr) (m : MOut) (T : TypeId) (va vb : AV) : Option Rc :=
  match t.get T, vb with
  | some (X, _), .one (.d (.raw (.int _ a))) => match X.k with
    | .array n T' => match t.get T' with
      | some (Y, _) => match va with
        | .one (.ptr id off) => qc (some (0 ≤ a ∧ a < n)) (.one (.ptr id (addO off (mulO a.toNat Y.size))))
        | .one (.ptrR id i j) => qc (some (0 ≤ a ∧ a < n)) (.one (.ptrR id i (addO j (mulO a.toNat Y.size))))
        | .one (.d (.fptr k g)) => sc (Nat.ble (n * Y.size) k) (some (0 ≤ a ∧ a < n)) (.one (.d (fsub Y.size (mulO a.toNat Y.size) g)))
        | _ => none
      | none => none
    | .slice T' => match t.get T' with
      | some (Y, _) => match va with
        | .one (.sl id lo n) => match lookI id m with
          | some (.row e k nn g) => some ⟨Nat.beq e T' && Nat.beq k Y.size, some (0 ≤ a ∧ a < n), none, [(id, .row e k nn g)], [], [], [], .one (.ptrR id (addO lo a.toNat) 0)⟩
          | some (.rowC e k nn g) => some ⟨Nat.beq e T' && Nat.beq k Y.size, some (0 ≤ a ∧ a < n), none, [(id, .rowC e k nn g)], [], [], [], .one (.ptrR id (addO lo a.toNat) 0)⟩
          | _ => none
        | .one (.d (.lst k n g)) => sc (Nat.beq Y.size k) (some (0 ≤ a ∧ a < n)) (.one (.d (.fptr k (g a.toNat))))
        | _ => none
      | none => none
    | _ => none
  | _, _ => none
theorem idxAR_ok (Xt : Tab P) {va vb : AV} {r : Rc} (h : idxAR Xt.t m T va vb = some r) (ho : o.op = .indexAddr T x y) (hx : ae x = some va) (hy : ae y = some vb) (hs : r.s = true) (ha : Holds r.a) : Good P G o ae m ids r := by
  unfold idxAR at h
  split at h
  · rename_i X z q a hT
    split at h
    · rename_i n T' hk
      split at h
      · rename_i Y z' hT'
        split at h
        · cases h; exact .q (OpS.idxArr ho hx hy (Xt.get hT).ti hk (Xt.get hT').ti ha)
        · cases h; exact .q (OpS.idxArrR ho hx hy (Xt.get hT).ti hk (Xt.get hT').ti ha)
        · cases h; exact .q (OpS.idxArrF ho hx hy (Xt.get hT).ti hk (Xt.get hT').ti ha (Nat.le_of_ble_eq_true hs))
        · cases h
      · cases h
    · rename_i T' hk
      split at h
      · rename_i Y z' hT'
        split at h
        · split at h
          · rename_i e k nn g hm
            cases h
            simp only [Bool.and_eq_true] at hs
            have h1 : e = T' := Nat.eq_of_beq_eq_true hs.1
            have h2 : k = Y.size := Nat.eq_of_beq_eq_true hs.2
            subst h1; subst h2
            exact .rdo (OpS.idxRow (g := g) (g' := fun _ _ => junkC) ho hx hy (Xt.get hT).ti hk (Xt.get hT').ti ha (.inl rfl)) hm
          · rename_i e k nn g hm
            cases h
            simp only [Bool.and_eq_true] at hs
            have h1 : e = T' := Nat.eq_of_beq_eq_true hs.1
            have h2 : k = Y.size := Nat.eq_of_beq_eq_true hs.2
            subst h1; subst h2
            exact .rdo (OpS.idxRow (g := fun _ _ => .raw undef) (g' := g) ho hx hy (Xt.get hT).ti hk (Xt.get hT').ti ha (.inr rfl)) hm
          · cases h
        · cases h
          exact .q (OpS.idxLst ho hx hy (Xt.get hT).ti hk (Xt.get hT').ti ha (Nat.eq_of_beq_eq_true hs))
        · cases h
      · cases h
    · cases h
  · cases h
def fldR (t : Tr) (T : TypeId) (i : Nat) (va : AV) : Option Rc :=
  match t.get T, va with
  | some (X, _), .agg n g => match X.k with
    | .struct fs => match nthO fs i with
      | some (fo, T') => match t.get T' with
        | some (Y, _) => sc (Nat.ble (fo + Y.size) n) none (pkA Y.k.agg Y.size fo g)
        | none => none
      | none => none
    | _ => none
  | _, _ => none
theorem fldR_ok (Xt : Tab P) {i : Nat} {va : AV} {r : Rc} (h : fldR Xt.t T i va = some r) (ho : o.op = .field T x i) (hx : ae x = some va) (hs : r.s = true) : Good P G o ae m ids r := by
  unfold fldR at h
  split at h
  · rename_i X z n g hT
    split at h
    · rename_i fs hk
      split at h
      · rename_i fo T' hf
        rw [nthO_eq] at hf
        split at h
        · rename_i Y z' hT'
          cases h
          exact .q (OpS.fld ho hx (Xt.get hT).ti hk hf (Xt.get hT').ti (Xt.get hT').one (Nat.le_of_ble_eq_true hs))
        · cases h
      · cases h
    · cases h
  · cases h
def idxR (t : Tr) (T : TypeId) (va vb : AV) : Option Rc :=
  match t.get T, vb with
  | some (X, _), .one (.d (.raw (.int _ a))) => match X.k with
    | .array n T' => match t.get T' with
      | some (Y, _) => match va with
        | .agg k g => sc (Nat.beq (n * Y.size) k) (some (0 ≤ a ∧ a < n)) (pkA Y.k.agg Y.size (mulO a.toNat Y.size) g)
        | _ => none
      | none => none
    | .string => match va with
      | .one (.d (.raw (.string ⟨⟨l⟩⟩))) => qc (some (0 ≤ a ∧ a < l.length)) (AI .u8 ((l.getD a.toNat 0).toNat : Int))
      | _ => none
    | _ => none
  | _, _ => none
theorem idxR_ok (Xt : Tab P) {va vb : AV} {r : Rc} (h : idxR Xt.t T va vb = some r) (ho : o.op = .index T x y) (hx : ae x = some va) (hy : ae y = some vb) (hs : r.s = true) (ha : Holds r.a) : Good P G o ae m ids r := by
  unfold idxR at h
  split at h
  · rename_i X z q a hT
    split at h
    · rename_i n T' hk
      split at h
      · rename_i Y z' hT'
        split at h
        · cases h
          have := OpS.idxA (G := G) ho hx hy (Xt.get hT).ti hk (Xt.get hT').ti (Xt.get hT').one ha (Nat.eq_of_beq_eq_true hs)
          rw [← mulO_eq] at this
          exact .q this
        · cases h
      · cases h
    · rename_i hk
      split at h
      · cases h
        exact .q (OpS.idxS ho hx hy (Xt.get hT).ti hk ha.1 ha.2)
      · cases h
    · cases h
  · cases h
def extrR (i : Nat) (va : AV) : Option Rc :=
  match va with
  | .tup n g => sc (Nat.blt i n) none (g i)
  | _ => none
theorem extrR_ok {i : Nat} {va : AV} {r : Rc} (h : extrR i va = some r) (ho : o.op = .extract x i) (hx : ae x = some va) (hs : r.s = true) : Good P G o ae m ids r := by
  unfold extrR at h
  split at h
  · cases h
    exact .q (OpS.extr ho hx (by have : i.succ ≤ _ := Nat.le_of_ble_eq_true hs; omega))
  · cases h
/-- All parts are closed: then a value of closed cells. -/
def buildR (t : Tr) (fr : Fr) (T : TypeId) (parts : List (Nat × Operand)) : Option Rc :=
  match t.get T with
  | some (X, z) => match partsOf (aevL fr) parts with
    | some qs => match X.k with
      | .struct fs => match placesOf t fs with
        | some pl => match fillC (nthO pl) X.size (fun j => .d (.raw (z j))) qs with
          | some g => qc none (.agg X.size g)
          | none => none
        | none => none
      | .array n e => match t.get e with
        | some (Y, _) => match fillC (fun i => some (i * Y.size, Y.size)) X.size (fun j => .d (.raw (z j))) qs with
          | some g => qc none (.agg X.size g)
          | none => none
        | none => none
      | _ => none
    | none => none
  | none => none
theorem buildR_ok (Xt : Tab P) {fr : Fr} {parts : List (Nat × Operand)} {r : Rc} (h : buildR Xt.t fr T parts = some r) (ho : o.op = .build T ⟨parts⟩) (hae : ae = aevL fr) : Good P G o ae m ids r := by
  unfold buildR at h
  split at h
  · rename_i X z hT
    split at h
    · rename_i qs hq
      split at h
      · rename_i fs hk
        split at h
        · rename_i pl hp
          split at h
          · rename_i g hg
            cases h
            exact .q (OpS.buildS Xt ho (Xt.get hT) hk hp (by rw [hae]; exact hq) hg)
          · cases h
        · cases h
      · rename_i n e hk
        split at h
        · rename_i Y z' hT'
          split at h
          · rename_i g hg
            cases h
            exact .q (OpS.buildA ho (Xt.get hT) hk (Xt.get hT').ti (by rw [hae]; exact hq) hg)
          · cases h
        · cases h
      · cases h
    · cases h
  · cases h
/-- The cells of element i of what is written out. -/
def elz (k : Nat) (z : Nat → Value) : Nat → C := fun j => .d (.raw (z (j % k)))
def buildSlR (t : Tr) (fr : Fr) (ids : List Id) (d : Nat) (T : TypeId) (len : Nat) (parts : List (Nat × Operand)) : Option Rc :=
  match t.get T with
  | some (X, _) => match X.k with
    | .slice e => match t.get e with
      | some (Y, z) => match partsOf (aevL fr) parts with
        | some qs => match fillC (fun i => some (i * Y.size, Y.size)) (len * Y.size) (fun j => .d (.raw (z (j % Y.size)))) qs with
          | some g => match pickId d ids 8 0 with
            | (ia, ib) => match closedTo (len * Y.size) g with
              | true => some ⟨!idHas (ia, ib) ids && !Nat.beq (len * Y.size) 0 && Nat.ble (len * Y.size) 16777216, none, none, [], [], [], [((ia, ib), .row e Y.size len (el Y.size fun j => (g j).toD))], .one (.sl (ia, ib) 0 len)⟩
              | false => some ⟨!idHas (ia, ib) ids && !Nat.beq (len * Y.size) 0 && Nat.ble (len * Y.size) 16777216, none, none, [], [], [], [((ia, ib), .rowC e Y.size len (el Y.size g))], .one (.sl (ia, ib) 0 len)⟩
          | none => none
        | none => none
      | none => none
    | _ => none
  | none => none
theorem buildSlR_ok (Xt : Tab P) {fr : Fr} {d len : Nat} {parts : List (Nat × Operand)} {r : Rc} (h : buildSlR Xt.t fr ids d T len parts = some r) (ho : o.op = .buildSlice T len ⟨parts⟩) (hae : ae = aevL fr) (hs : r.s = true) : Good P G o ae m ids r := by
  unfold buildSlR at h
  split at h
  · rename_i X z0 hT
    split at h
    · rename_i e hk
      split at h
      · rename_i Y z hT'
        split at h
        · rename_i qs hq
          split at h
          · rename_i g hg
            generalize pickId d ids 8 0 = pk at h
            obtain ⟨ia, ib⟩ := pk
            simp only at h
            split at h
            · rename_i hcl
              cases h
              simp only [Bool.and_eq_true] at hs
              exact .new (OpS.buildSlC _ ho (Xt.get hT).ti hk (Xt.get hT') (beq_zero hs.1.2) (Nat.le_of_ble_eq_true hs.2) (by rw [hae]; exact hq) hg (.inr ⟨hcl, rfl⟩)) hs.1.1
            · cases h
              simp only [Bool.and_eq_true] at hs
              exact .new (OpS.buildSlC _ ho (Xt.get hT).ti hk (Xt.get hT') (beq_zero hs.1.2) (Nat.le_of_ble_eq_true hs.2) (by rw [hae]; exact hq) hg (.inl rfl)) hs.1.1
          · cases h
        · cases h
      · cases h
    · cases h
  · cases h
def mkSlR (t : Tr) (ids : List Id) (d : Nat) (T : TypeId) (va vb : AV) : Option Rc :=
  match t.get T, va, vb with
  | some (X, _), .one (.d (.raw (.int _ a))), .one (.d (.raw (.int _ b))) => match X.k with
    | .slice e => match t.get e with
      | some (Y, z) => match pickId d ids 8 0 with
        | (ia, ib) => some ⟨!idHas (ia, ib) ids && Nat.blt 0 Y.bytes, some (b = a ∧ 0 ≤ a ∧ (Y.bytes : Int) * a ≤ 281474976710656), none, [], [], [], [((ia, ib), .row e Y.size a.toNat fun _ j => .raw (z j))], .one (.sl (ia, ib) 0 a.toNat)⟩
      | none => none
    | _ => none
  | _, _, _ => none
theorem mkSlR_ok (Xt : Tab P) {d : Nat} {va vb : AV} {r : Rc} (h : mkSlR Xt.t ids d T va vb = some r) (ho : o.op = .makeSlice T x y) (hx : ae x = some va) (hy : ae y = some vb) (hs : r.s = true) (ha : Holds r.a) : Good P G o ae m ids r := by
  unfold mkSlR at h
  split at h
  · rename_i X z0 q a q2 b hT
    split at h
    · rename_i e hk
      split at h
      · rename_i Y z hT'
        generalize pickId d ids 8 0 = pk at h
        obtain ⟨ia, ib⟩ := pk
        simp only at h
        cases h
        simp only [Bool.and_eq_true] at hs
        exact .new (OpS.mkSl _ ho hx hy (Xt.get hT).ti hk (Xt.get hT') (by have : Nat.succ 0 ≤ _ := Nat.le_of_ble_eq_true hs.2; omega) ha) hs.1
      · cases h
    · cases h
  · cases h
/-! ### cutting -/
def bndA (fr : Fr) (d : Nat) : Option Operand → Option (Nat × Option Prop)
  | none => some (d, none)
  | some q => match aevL fr q with
    | some (.one (.d (.raw (.int _ a)))) => some (a.toNat, some (0 ≤ a))
    | _ => none
theorem bndA_ok {fr : Fr} {d i : Nat} {q : Option Operand} {c : Option Prop} (h : bndA fr d q = some (i, c)) (hc : Holds c) : Bnd (aevL fr) q d i := by
  cases q with
  | none => simp only [bndA, Option.some.injEq, Prod.mk.injEq] at h; obtain ⟨rfl, rfl⟩ := h; exact .no
  | some q =>
    simp only [bndA] at h
    split at h
    · rename_i k a hq
      simp only [Option.some.injEq, Prod.mk.injEq] at h
      obtain ⟨rfl, rfl⟩ := h
      exact .at hq (Int.toNat_of_nonneg hc).symm
    · cases h
def andP : Option Prop → Prop → Prop
  | none, p => p
  | some q, p => q ∧ p
theorem andP_ok {a : Option Prop} {p : Prop} (h : andP a p) : Holds a ∧ p := by
  cases a with
  | none => exact ⟨trivial, h⟩
  | some q => exact h
def cutR (t : Tr) (fr : Fr) (m : MOut) (T : TypeId) (va : AV) (lo hi : Option Operand) : Option Rc :=
  match t.get T with
  | some (X, _) => match X.k with
    | .string => match va with
      | .one (.d (.raw (.string ⟨⟨l⟩⟩))) => match bndA fr 0 lo, bndA fr l.length hi with
        | some (i, c), some (j, c') => qc (some (andP c (andP c' (i ≤ j ∧ j ≤ l.length)))) (AL (cutL i j l))
        | _, _ => none
      | _ => none
    | .slice e => match t.get e with
      | some (Y, _) => match va with
        | .one (.d (.lst k n g)) => match bndA fr 0 lo, bndA fr n hi with
          | some (i, c), some (j, c') => sc (Nat.beq Y.size k) (some (andP c (andP c' (i ≤ j ∧ j ≤ n)))) (.one (.d (.lst k (j - i) (sh i g))))
          | _, _ => none
        | .one (.sl id lo0 n) => match lo with
          | none => match bndA fr n hi with
            | some (j, c') => qc (some (andP c' (j ≤ n))) (.one (.sl id lo0 j))
            | none => none
          | some _ => match bndA fr 0 lo, bndA fr n hi, lookI id m with
            | some (i, c), some (j, c'), some (.row e' k nn g) => some ⟨Nat.beq e' e && Nat.beq k Y.size, some (andP c (andP c' (i < j ∧ j ≤ n))), none, [(id, .row e' k nn g)], [], [], [], .one (.sl id (lo0 + i) (j - i))⟩
            | some (i, c), some (j, c'), some (.rowC e' k nn g) => some ⟨Nat.beq e' e && Nat.beq k Y.size, some (andP c (andP c' (i < j ∧ j ≤ n))), none, [(id, .rowC e' k nn g)], [], [], [], .one (.sl id (lo0 + i) (j - i))⟩
            | _, _, _ => none
        | _ => none
      | none => none
    | _ => none
  | none => none
theorem cutR_ok (Xt : Tab P) {fr : Fr} {va : AV} {lo hi : Option Operand} {r : Rc} (h : cutR Xt.t fr m T va lo hi = some r) (ho : o.op = .slice T x lo hi none) (hx : ae x = some va) (hae : ae = aevL fr) (hs : r.s = true) (ha : Holds r.a) : Good P G o ae m ids r := by
  subst hae
  unfold cutR at h
  split at h
  · rename_i X z hT
    split at h
    · rename_i hk
      split at h
      · split at h
        · rename_i i c j c' h1 h2
          cases h
          obtain ⟨a1, a2⟩ := andP_ok ha
          obtain ⟨a3, a4⟩ := andP_ok a2
          exact .q (OpS.cutS ho hx (Xt.get hT).ti hk (bndA_ok h1 a1) (bndA_ok h2 a3) a4.1 a4.2)
        · cases h
      · cases h
    · rename_i e hk
      split at h
      · rename_i Y z' hT'
        split at h
        · split at h
          · rename_i i c j c' h1 h2
            cases h
            obtain ⟨a1, a2⟩ := andP_ok ha
            obtain ⟨a3, a4⟩ := andP_ok a2
            exact .q (OpS.cutF ho hx (Xt.get hT).ti hk (Xt.get hT').ti (Nat.eq_of_beq_eq_true hs) (bndA_ok h1 a1) (bndA_ok h2 a3) a4.1 a4.2)
          · cases h
        · split at h
          · split at h
            · rename_i j c' h2
              cases h
              obtain ⟨a3, a4⟩ := andP_ok ha
              exact .q (OpS.cutR ho hx (Xt.get hT).ti hk (Xt.get hT').ti .no (bndA_ok h2 a3) a4)
            · cases h
          · split at h
            · rename_i i c j c' e' k nn g h1 h2 hm
              cases h
              simp only [Bool.and_eq_true] at hs
              have e1 : e' = e := Nat.eq_of_beq_eq_true hs.1
              have e2 : k = Y.size := Nat.eq_of_beq_eq_true hs.2
              subst e1; subst e2
              obtain ⟨a1, a2⟩ := andP_ok ha
              obtain ⟨a3, a4⟩ := andP_ok a2
              exact .rdo (OpS.cutRM (g := g) (g' := fun _ _ => junkC) ho hx (Xt.get hT).ti hk (Xt.get hT').ti (.inl rfl) (bndA_ok h1 a1) (bndA_ok h2 a3) a4.1 a4.2) hm
            · rename_i i c j c' e' k nn g h1 h2 hm
              cases h
              simp only [Bool.and_eq_true] at hs
              have e1 : e' = e := Nat.eq_of_beq_eq_true hs.1
              have e2 : k = Y.size := Nat.eq_of_beq_eq_true hs.2
              subst e1; subst e2
              obtain ⟨a1, a2⟩ := andP_ok ha
              obtain ⟨a3, a4⟩ := andP_ok a2
              exact .rdo (OpS.cutRM (g := fun _ _ => .raw undef) (g' := g) ho hx (Xt.get hT).ti hk (Xt.get hT').ti (.inr rfl) (bndA_ok h1 a1) (bndA_ok h2 a3) a4.1 a4.2) hm
            · cases h
        · cases h
      · cases h
    · cases h
  · cases h

/-! ### builtins -/
def lenR (t : Tr) (m : MOut) (T : TypeId) (va : AV) : Option Rc :=
  match t.get T with
  | some (X, _) => match X.k with
    | .slice _ => match lenA m va with
      | some (n, rd) => some ⟨true, none, none, rd, [], [], [], AI .i64 n⟩
      | none => none
    | .string => match va with
      | .one (.d (.raw (.string ⟨⟨l⟩⟩))) => qc (some (l.length ≤ 9223372036854775807)) (AI .i64 l.length)
      | _ => none
    | .map _ _ => match va with
      | .one (.mp id) => match lookI id m with
        | some (.map ok kvs) => some ⟨true, some (kvs.length ≤ 9223372036854775807), none, [(id, .map ok kvs)], [], [], [], AI .i64 kvs.length⟩
        | _ => none
      | _ => none
    | _ => none
  | none => none
theorem lenA_sub {va : AV} {n : Nat} {rd : MIn} (h : lenA m va = some (n, rd)) : Sub rd m := by
  unfold lenA at h
  split at h
  · cases h; trivial
  · cases h; trivial
  · split at h
    · rename_i hm; cases h; exact ⟨hm, trivial⟩
    · rename_i hm; cases h; exact ⟨hm, trivial⟩
    · cases h
  · cases h
theorem lenR_ok (Xt : Tab P) {va : AV} {r : Rc} (h : lenR Xt.t m T va = some r) (ho : o.op = .call { callee := .builtin .len, args := ⟨[x]⟩, argTypes := ⟨[T]⟩ }) (hx : ae x = some va) (ha : Holds r.a) : Good P G o ae m ids r := by
  unfold lenR at h
  split at h
  · rename_i X z hT
    split at h
    · rename_i e hk
      split at h
      · rename_i n rd hl
        cases h
        exact ⟨OpS.lenSl ho hx hl (Xt.get hT).ti hk, lenA_sub hl, trivial, rfl, rfl⟩
      · cases h
    · rename_i hk
      split at h
      · cases h; exact .q (OpS.lenS ho hx (Xt.get hT).ti hk ha)
      · cases h
    · rename_i hk
      split at h
      · split at h
        · rename_i hm
          cases h
          exact .rdo (OpS.lenM ho hx (Xt.get hT).ti hk ha) hm
        · cases h
      · cases h
    · cases h
  · cases h
def snkA (m : MOut) (e k : Nat) (va : AV) : Option (MIn × MOut × Nat × (Nat → Nat → D) × Option Prop × Bool) :=
  match va with
  | .one (.d (.raw (.slice none 0 0))) => some ([], [], 0, fun _ _ => .raw undef, none, true)
  | .one (.sl id 0 n) => match lookI id m with
    | some (.row e' k' nn g) => some ([(id, .row e' k' nn g)], [(id, none)], n, g, some (n ≤ nn), Nat.beq e' e && Nat.beq k' k)
    | _ => none
  | _ => none
theorem snkA_ok {e k : Nat} {va : AV} {wi : MIn} {wo : MOut} {n : Nat} {g : Nat → Nat → D} {c : Option Prop} {s : Bool} (h : snkA m e k va = some (wi, wo, n, g, c, s)) (hx : ae x = some va) (hc : Holds c) (hs : s = true) : Snk ae x e k wi wo n g ∧ Sub wi m ∧ keys wo = keys wi := by
  unfold snkA at h
  split at h
  · cases h; exact ⟨.nil hx, trivial, rfl⟩
  · split at h
    · rename_i hm
      cases h
      simp only [Bool.and_eq_true] at hs
      have e1 := Nat.eq_of_beq_eq_true hs.1
      have e2 := Nat.eq_of_beq_eq_true hs.2
      subst e1; subst e2
      exact ⟨.row hx hc, by rw [lookI_eq] at hm; exact ⟨hm, trivial⟩, rfl⟩
    · cases h
  · cases h
def disj (a b : List Id) : Bool := match a with
  | [] => true
  | i :: l => !idHas i b && disj l b
theorem disj_ok : ∀ {a b : List Id}, disj a b = true → a.all (fun id => !b.contains id) = true
  | [], _, _ => rfl
  | i :: l, b, h => by
    simp only [disj, Bool.and_eq_true] at h
    simp only [List.all_cons, Bool.and_eq_true]
    exact ⟨by rw [← idHas_eq]; exact h.1, disj_ok h.2⟩
/-- What lies behind, where a nil slice is put behind. -/
def srcN (m : MOut) (k : Nat) (va : AV) : Option (MIn × Nat × Nat × (Nat → Nat → D) × Option Prop) :=
  match va with
  | .one (.d (.raw (.slice none 0 0))) => some ([], k, 0, fun _ _ => .raw undef, none)
  | va => srcA m va
theorem srcN_ok {va : AV} {rd : MIn} {k k0 n : Nat} {g : Nat → Nat → D} {c : Option Prop} (h : srcN m k0 va = some (rd, k, n, g, c)) (hx : ae x = some va) (hc : Holds c) : Src ae x rd k n g ∧ Sub rd m := by
  unfold srcN at h
  split at h
  · cases h; exact ⟨.nil hx, trivial⟩
  · exact srcA_ok h hx hc
def appR (t : Tr) (m : MOut) (ids : List Id) (d : Nat) (T : TypeId) (va vb : AV) : Option Rc :=
  match t.get T with
  | some (X, _) => match X.k with
    | .slice e => match t.get e with
      | some (Y, _) => match srcN m Y.size vb, snkA m e Y.size va with
        | some (rd, k, n2, es, c), some (wi, wo, n, g, c', s) => match pickId d ids 8 0 with
          | (ia, ib) => some ⟨!idHas (ia, ib) ids && s && Nat.beq k Y.size && Nat.blt 0 Y.size && Nat.blt 0 Y.bytes && disj (keys wi) (keys rd), some (andP c (andP c' ((n + n2) * Y.bytes ≤ 140737488355328))), none, rd, wi, wo, [((ia, ib), .row e Y.size (n + n2) (appG n g es))], .one (.sl (ia, ib) 0 (n + n2))⟩
        | _, _ => none
      | none => none
    | _ => none
  | none => none
theorem appR_ok (Xt : Tab P) {d : Nat} {va vb : AV} {r : Rc} {T' : TypeId} (h : appR Xt.t m ids d T va vb = some r) (ho : o.op = .call { callee := .builtin .append, args := ⟨[x, y]⟩, argTypes := ⟨[T, T']⟩ }) (he : T' = T) (hx : ae x = some va) (hy : ae y = some vb) (hs : r.s = true) (ha : Holds r.a) : Good P G o ae m ids r := by
  subst he
  unfold appR at h
  split at h
  · rename_i X z hT
    split at h
    · rename_i e hk
      split at h
      · rename_i Y z' hT'
        split at h
        · rename_i rd k n2 es c wi wo n g c' s h1 h2
          generalize pickId d ids 8 0 = pk at h
          obtain ⟨ia, ib⟩ := pk
          simp only at h
          cases h
          simp only [Bool.and_eq_true] at hs
          obtain ⟨⟨⟨⟨⟨s1, s2⟩, s3⟩, s4⟩, s5⟩, s6⟩ := hs
          obtain ⟨a1, a2⟩ := andP_ok ha
          obtain ⟨a3, a4⟩ := andP_ok a2
          have hk1 := Nat.eq_of_beq_eq_true s3
          subst hk1
          obtain ⟨b1, b2⟩ := srcN_ok h1 hy a1
          obtain ⟨b3, b4, b5⟩ := snkA_ok h2 hx a3 s2
          refine ⟨OpS.app _ ho b1 b3 (Xt.get hT).ti hk (Xt.get hT').ti rfl rfl (Xt.get hT').zs (by have : Nat.succ 0 ≤ _ := Nat.le_of_ble_eq_true s4; omega) (by have : Nat.succ 0 ≤ _ := Nat.le_of_ble_eq_true s5; omega) (disj_ok s6) a4, b2, b4, b5, fresh_of (by simpa using s1)⟩
        · cases h
      · cases h
    · cases h
  · cases h
def minR (va vb : AV) : Option Rc :=
  match va, vb with
  | .one (.d (.raw (.int k a))), .one (.d (.raw (.int k' b))) => sc (decide (k = k')) none (AI k (if b < a then b else a))
  | _, _ => none
def maxR (va vb : AV) : Option Rc :=
  match va, vb with
  | .one (.d (.raw (.int k a))), .one (.d (.raw (.int k' b))) => sc (decide (k = k')) none (AI k (if a < b then b else a))
  | _, _ => none
theorem minR_ok {va vb : AV} {r : Rc} {ts : Array TypeId} (h : minR va vb = some r) (ho : o.op = .call { callee := .builtin .min, args := ⟨[x, y]⟩, argTypes := ts }) (hx : ae x = some va) (hy : ae y = some vb) (hs : r.s = true) : Good P G o ae m ids r := by
  unfold minR at h
  split at h
  · rename_i k a k' b
    cases h
    have : k = k' := by simpa using hs
    subst this
    exact .q (OpS.minI ho hx hy)
  · cases h
theorem maxR_ok {va vb : AV} {r : Rc} {ts : Array TypeId} (h : maxR va vb = some r) (ho : o.op = .call { callee := .builtin .max, args := ⟨[x, y]⟩, argTypes := ts }) (hx : ae x = some va) (hy : ae y = some vb) (hs : r.s = true) : Good P G o ae m ids r := by
  unfold maxR at h
  split at h
  · rename_i k a k' b
    cases h
    have : k = k' := by simpa using hs
    subst this
    exact .q (OpS.maxI ho hx hy)
  · cases h
def mkFnR (fr : Fr) (f : FuncId) (caps : List Operand) : Option Rc :=
  match onesOf (aevL fr) caps with
  | some cs => qc none (.one (.clo f cs.length (nth junkC cs)))
  | none => none
theorem mkFnR_ok {fr : Fr} {f : FuncId} {caps : List Operand} {r : Rc} (h : mkFnR fr f caps = some r) (ho : o.op = .makeFunc (.func f) #[] ⟨caps⟩) (hae : ae = aevL fr) : Good P G o ae m ids r := by
  unfold mkFnR at h
  split at h
  · rename_i cs hc
    cases h
    exact .q (OpS.mkFn ho (by rw [hae]; exact hc))
  · cases h
def mkMapR (t : Tr) (P : Program) (ids : List Id) (d : Nat) (T : TypeId) : Option Rc :=
  match t.get T with
  | some (X, _) => match X.k with
    | .map K _ => match pickId d ids 8 0 with
      | (ia, ib) => some ⟨!idHas (ia, ib) ids, none, none, [], [], [], [((ia, ib), .map (isKey P K) [])], .one (.mp (ia, ib))⟩
    | _ => none
  | none => none
theorem mkMapR_ok {t : Tr} {d : Nat} {r : Rc} (h : mkMapR t P ids d T = some r) (ho : o.op = .makeMap T none) (hs : r.s = true) : Good P G o ae m ids r := by
  unfold mkMapR at h
  split at h
  · split at h
    · generalize pickId d ids 8 0 = pk at h
      obtain ⟨ia, ib⟩ := pk
      simp only at h
      cases h
      exact .new (OpS.mkMap _ _ ho) hs
    · cases h
  · cases h
end

/-- What an operation comes to. -/
def opA (t : Tr) (P : Program) (fr : Fr) (m : MOut) (ids : List Id) (dst : Nat) : Op → Option Rc
  | .move x => match aevL fr x with | some v => qc none v | none => none
  | .assign x => match aevL fr x with | some v => qc none v | none => none
  | .binOp op T x y _ => match aevL fr x, aevL fr y with | some a, some b => binR t op T a b | _, _ => none
  | .unOp op _ x => match aevL fr x with | some a => unR op a | none => none
  | .convert src dst x => match aevL fr x with | some a => convR t m src dst a | none => none
  | .alloc T => allocR t ids dst T
  | .box _ x => match aevL fr x with | some a => boxR ids dst a | none => none
  | .load T x => match aevL fr x with | some a => loadR t m T a | none => none
  | .store T x y => match aevL fr x, aevL fr y with | some a, some b => storeR t m T a b | _, _ => none
  | .nilCheck x => match aevL fr x with | some a => nilR a | none => none
  | .fieldAddr T x i => match aevL fr x with | some a => fldAR t T i a | none => none
  | .indexAddr T x y => match aevL fr x, aevL fr y with | some a, some b => idxAR t m T a b | _, _ => none
  | .field T x i => match aevL fr x with | some a => fldR t T i a | none => none
  | .index T x y => match aevL fr x, aevL fr y with | some a, some b => idxR t T a b | _, _ => none
  | .extract x i => match aevL fr x with | some a => extrR i a | none => none
  | .build T ⟨parts⟩ => buildR t fr T parts
  | .buildSlice T len ⟨parts⟩ => buildSlR t fr ids dst T len parts
  | .makeSlice T x y => match aevL fr x, aevL fr y with | some a, some b => mkSlR t ids dst T a b | _, _ => none
  | .slice T x lo hi none => match aevL fr x with | some a => cutR t fr m T a lo hi | none => none
  | .makeFunc (.func f) ⟨[]⟩ ⟨caps⟩ => mkFnR fr f caps
  | .makeMap T none => mkMapR t P ids dst T
  | .call ⟨.builtin .len, ⟨[x]⟩, ⟨[T]⟩⟩ => match aevL fr x with | some a => lenR t m T a | none => none
  | .call ⟨.builtin .append, ⟨[x, y]⟩, ⟨[T, T']⟩⟩ => match aevL fr x, aevL fr y, Nat.beq T' T with | some a, some b, true => appR t m ids dst T a b | _, _, _ => none
  | .call ⟨.builtin .min, ⟨[x, y]⟩, _⟩ => match aevL fr x, aevL fr y with | some a, some b => minR a b | _, _ => none
  | .call ⟨.builtin .max, ⟨[x, y]⟩, _⟩ => match aevL fr x, aevL fr y with | some a, some b => maxR a b | _, _ => none
  | _ => none
end Go.Bw
