/- Abstract walk over contents given by functions, part 7: the operations on values. -/
import Derived.Test.YticpndkcicgenaaDoorBw6
import Derived.IntWalk
import Derived.Laws.Strings
import Derived.Laws.Concat
import Derived.Laws.StructEq
set_option linter.unusedVariables false
set_option linter.unusedSimpArgs false
namespace Go.Bw
open Go.RowKit

abbrev RV (v : Value) : AV := .one (.d (.raw v))
abbrev AI (k : IntKind) (n : Int) : AV := .one (.d (.raw (.int k n)))
abbrev AB (b : Bool) : AV := .one (.d (.raw (.bool b)))
abbrev str (l : List UInt8) : ByteArray := ⟨⟨l⟩⟩
abbrev AL (l : List UInt8) : AV := .one (.d (.raw (.string ⟨⟨l⟩⟩)))
theorem str_size (l : List UInt8) : (str l).size = l.length := rfl

theorem rep_raw {φ F w v u} (h : repAV φ F w (RV v) u) : u = v := by
  simp only [repAV, repC, repD] at h; exact h.1
theorem rep_ok {φ F w v u} (h : repAV φ F w (RV v) u) : okV v := by
  simp only [repAV, repC, repD] at h; exact h.2
theorem rep_raw_mk {φ F w v} (h : okV v) : repAV φ F w (RV v) v := by
  simp only [repAV, repC, repD]; exact ⟨trivial, h⟩
/-- What a test comes to. -/
def sb (p : Prop) [Decidable p] : Bool := decide p
theorem sb_eq (p : Prop) [Decidable p] : sb p = decide p := rfl
def Holds : Option Prop → Prop
  | none => True
  | some p => p

theorem wrap_ok (k : IntKind) (n : Int) : okV (.int k (k.wrap n)) := by
  show ilo k ≤ _ ∧ _ ≤ ihi k
  cases k <;> simp [IntKind.wrap, IntKind.signed, IntKind.bits, ilo, ihi] <;> (try split) <;> omega
theorem wrap_id {k : IntKind} {n : Int} (h : okV (.int k n)) : k.wrap n = n := by
  have h : ilo k ≤ n ∧ n ≤ ihi k := h
  cases k <;> simp [IntKind.wrap, IntKind.signed, IntKind.bits, ilo, ihi] at h ⊢ <;> (try split) <;> omega

section quiet
variable {P : Program} {G : List (Addr × Value)} {o : Oper} {ae : Operand → Option AV} {x y z : Operand} {v : AV} {T yT : TypeId}

theorem OpS.cast {rd wi wo nw} {v v' : AV} (h : OpS P G o ae rd wi wo nw v) (e : v = v') : OpS P G o ae rd wi wo nw v' := e ▸ h
theorem OpS.move (ho : o.op = .move x) (hx : ae x = some v) : OpS P G o ae [] [] [] [] v :=
  .quiet fun φ F w ρ hs hop => ⟨ρ x, by unfold execOp; simp only [ho, Sem.run_pure], hop x (by simp [ho, Op.operands]) v hx⟩
theorem OpS.assign (ho : o.op = .assign x) (hx : ae x = some v) : OpS P G o ae [] [] [] [] v :=
  .quiet fun φ F w ρ hs hop => ⟨ρ x, by unfold execOp; simp only [ho, Sem.run_pure], hop x (by simp [ho, Op.operands]) v hx⟩

def ibit (op : BinOp) (k : IntKind) (a b : Int) : Int :=
  match op with
  | .and => k.wrap ((BitVec.ofInt k.bits a &&& BitVec.ofInt k.bits b).toNat)
  | .or => k.wrap ((BitVec.ofInt k.bits a ||| BitVec.ofInt k.bits b).toNat)
  | .xor => k.wrap ((BitVec.ofInt k.bits a ^^^ BitVec.ofInt k.bits b).toNat)
  | _ => k.wrap ((BitVec.ofInt k.bits a &&& ~~~ BitVec.ofInt k.bits b).toNat)
theorem ibit_ok (op : BinOp) (k : IntKind) (a b : Int) : okV (.int k (ibit op k a b)) := by cases op <;> exact wrap_ok _ _
theorem div_ok {k : IntKind} {a b : Int} (h : okV (.int k a)) (h0 : 0 ≤ a) (h1 : 1 ≤ b) : okV (.int k (a / b)) := by
  have h : ilo k ≤ a ∧ a ≤ ihi k := h
  have h2 : 0 ≤ a / b := Int.ediv_nonneg h0 (by omega)
  have h3 : a / b ≤ a := Int.ediv_le_self _ h0
  refine ⟨?_, by omega⟩
  cases k <;> simp [ilo] <;> omega
theorem mod_ok {k : IntKind} {a b : Int} (h : okV (.int k b)) (h1 : 1 ≤ b) : okV (.int k (a % b)) := by
  have h : ilo k ≤ b ∧ b ≤ ihi k := h
  have h2 : 0 ≤ a % b := Int.emod_nonneg _ (by omega)
  have h3 : a % b < b := Int.emod_lt_of_pos _ (by omega)
  refine ⟨?_, by omega⟩
  cases k <;> simp [ilo] <;> omega

/-- What two whole numbers come to, and on what condition. -/
def binA (op : BinOp) (k : IntKind) (a b : Int) : Option (Option Prop × Value) :=
  match op with
  | .add => match k with
    | .i64 => some (some (-9223372036854775808 ≤ a + b ∧ a + b ≤ 9223372036854775807), .int .i64 (a + b))
    | k => some (none, .int k (k.wrap (a + b)))
  | .sub => match k with
    | .i64 => some (some (-9223372036854775808 ≤ a - b ∧ a - b ≤ 9223372036854775807), .int .i64 (a - b))
    | k => some (none, .int k (k.wrap (a - b)))
  | .mul => match k with
    | .i64 => some (some (-9223372036854775808 ≤ a * b ∧ a * b ≤ 9223372036854775807), .int .i64 (a * b))
    | k => some (none, .int k (k.wrap (a * b)))
  | .eql => some (none, .bool (sb (a = b)))
  | .neq => some (none, .bool (sb (a ≠ b)))
  | .lss => some (none, .bool (sb (a < b)))
  | .leq => some (none, .bool (sb (a ≤ b)))
  | .gtr => some (none, .bool (sb (b < a)))
  | .geq => some (none, .bool (sb (b ≤ a)))
  | .and => some (none, .int k (ibit .and k a b))
  | .or => some (none, .int k (ibit .or k a b))
  | .xor => some (none, .int k (ibit .xor k a b))
  | .andNot => some (none, .int k (ibit .andNot k a b))
  | .quo => match k.signed with
    | true => some (some (0 ≤ a ∧ 1 ≤ b), .int k (a / b))
    | false => some (some (1 ≤ b), .int k (a / b))
  | .rem => match k.signed with
    | true => some (some (0 ≤ a ∧ 1 ≤ b), .int k (a % b))
    | false => some (some (1 ≤ b), .int k (a % b))
  | _ => none
theorem run_eqGuard_int (op : BinOp) (t : TypeId) (x y : Operand) (k j : IntKind) (a b : Int) (w : World) : (eqGuard op t x y (.int k a) (.int j b)).run P w = .ok () w := by
  cases op <;> simp [eqGuard]
theorem okV.nonneg {k : IntKind} {a : Int} (h : okV (.int k a)) (hk : k.signed = false) : 0 ≤ a := by
  have h : ilo k ≤ a ∧ a ≤ ihi k := h
  cases k <;> simp [IntKind.signed] at hk <;> simp [ilo] at h <;> omega
theorem run_binA {op : BinOp} {k : IntKind} {a b : Int} {c : Option Prop} {u : Value} (hv : binA op k a b = some (c, u)) (hc : Holds c) (ha : okV (.int k a)) (hb : okV (.int k b)) (t : TypeId) (w : World) : (Go.binOp op t (.int k a) (.int k b)).run P w = .ok u w ∧ okV u := by
  cases op with
  | add =>
    cases k <;> simp only [binA, Option.some.injEq, Prod.mk.injEq] at hv <;> obtain ⟨rfl, rfl⟩ := hv <;> first
      | exact ⟨by simp [Go.binOp, Op.intArith], wrap_ok _ _⟩
      | exact ⟨by simp [Go.binOp, Op.intArith, wrap_id (k := .i64) (n := a + b) hc], hc⟩
  | sub =>
    cases k <;> simp only [binA, Option.some.injEq, Prod.mk.injEq] at hv <;> obtain ⟨rfl, rfl⟩ := hv <;> first
      | exact ⟨by simp [Go.binOp, Op.intArith], wrap_ok _ _⟩
      | exact ⟨by simp [Go.binOp, Op.intArith, wrap_id (k := .i64) (n := a - b) hc], hc⟩
  | mul =>
    cases k <;> simp only [binA, Option.some.injEq, Prod.mk.injEq] at hv <;> obtain ⟨rfl, rfl⟩ := hv <;> first
      | exact ⟨by simp [Go.binOp, Op.intArith], wrap_ok _ _⟩
      | exact ⟨by simp [Go.binOp, Op.intArith, wrap_id (k := .i64) (n := a * b) hc], hc⟩
  | eql => simp only [binA, Option.some.injEq, Prod.mk.injEq] at hv; obtain ⟨rfl, rfl⟩ := hv; exact ⟨by simp [Go.binOp, Op.intCmp, sb_eq]; rfl, rfl⟩
  | neq => simp only [binA, Option.some.injEq, Prod.mk.injEq] at hv; obtain ⟨rfl, rfl⟩ := hv; exact ⟨by simp [Go.binOp, Op.intCmp, sb_eq]; rfl, rfl⟩
  | lss => simp only [binA, Option.some.injEq, Prod.mk.injEq] at hv; obtain ⟨rfl, rfl⟩ := hv; exact ⟨by simp [Go.binOp, Op.intCmp, sb_eq], rfl⟩
  | leq => simp only [binA, Option.some.injEq, Prod.mk.injEq] at hv; obtain ⟨rfl, rfl⟩ := hv; exact ⟨by simp [Go.binOp, Op.intCmp, sb_eq], rfl⟩
  | gtr => simp only [binA, Option.some.injEq, Prod.mk.injEq] at hv; obtain ⟨rfl, rfl⟩ := hv; exact ⟨by simp [Go.binOp, Op.intCmp, sb_eq], rfl⟩
  | geq => simp only [binA, Option.some.injEq, Prod.mk.injEq] at hv; obtain ⟨rfl, rfl⟩ := hv; exact ⟨by simp [Go.binOp, Op.intCmp, sb_eq], rfl⟩
  | and => simp only [binA, Option.some.injEq, Prod.mk.injEq] at hv; obtain ⟨rfl, rfl⟩ := hv; exact ⟨by simp [Go.binOp, Op.intBits, ibit], ibit_ok _ _ _ _⟩
  | or => simp only [binA, Option.some.injEq, Prod.mk.injEq] at hv; obtain ⟨rfl, rfl⟩ := hv; exact ⟨by simp [Go.binOp, Op.intBits, ibit], ibit_ok _ _ _ _⟩
  | xor => simp only [binA, Option.some.injEq, Prod.mk.injEq] at hv; obtain ⟨rfl, rfl⟩ := hv; exact ⟨by simp [Go.binOp, Op.intBits, ibit], ibit_ok _ _ _ _⟩
  | andNot => simp only [binA, Option.some.injEq, Prod.mk.injEq] at hv; obtain ⟨rfl, rfl⟩ := hv; exact ⟨by simp [Go.binOp, Op.intBits, ibit], ibit_ok _ _ _ _⟩
  | quo =>
    have key : (0 ≤ a ∧ 1 ≤ b) ∧ u = .int k (a / b) := by
      cases hk : k.signed with
      | true => simp only [binA, hk, Option.some.injEq, Prod.mk.injEq] at hv; obtain ⟨rfl, rfl⟩ := hv; exact ⟨hc, rfl⟩
      | false => simp only [binA, hk, Option.some.injEq, Prod.mk.injEq] at hv; obtain ⟨rfl, rfl⟩ := hv; exact ⟨⟨ha.nonneg hk, hc⟩, rfl⟩
    obtain ⟨⟨h0, h2⟩, rfl⟩ := key
    have h := div_ok ha h0 h2
    refine ⟨?_, h⟩
    have h1 : b ≠ 0 := by omega
    have h3 : a.tdiv b = a / b := Int.tdiv_eq_ediv_of_nonneg h0
    simp [Go.binOp, Op.intDiv, h1, h3, wrap_id h]
  | rem =>
    have key : (0 ≤ a ∧ 1 ≤ b) ∧ u = .int k (a % b) := by
      cases hk : k.signed with
      | true => simp only [binA, hk, Option.some.injEq, Prod.mk.injEq] at hv; obtain ⟨rfl, rfl⟩ := hv; exact ⟨hc, rfl⟩
      | false => simp only [binA, hk, Option.some.injEq, Prod.mk.injEq] at hv; obtain ⟨rfl, rfl⟩ := hv; exact ⟨⟨ha.nonneg hk, hc⟩, rfl⟩
    obtain ⟨⟨h0, h2⟩, rfl⟩ := key
    refine ⟨?_, mod_ok hb h2⟩
    have h1 : b ≠ 0 := by omega
    have h3 : a.tmod b = a % b := Int.tmod_eq_emod_of_nonneg h0
    simp [Go.binOp, Op.intDiv, h1, h3]
  | _ => simp [binA] at hv
theorem OpS.bin {op : BinOp} {k : IntKind} {a b : Int} {c : Option Prop} {u : Value} (ho : o.op = .binOp op T x y yT) (hx : ae x = some (AI k a)) (hy : ae y = some (AI k b)) (hv : binA op k a b = some (c, u)) (hc : Holds c) : OpS P G o ae [] [] [] [] (RV u) :=
  .quiet fun φ F w ρ hs hop => by
    have h1 := hop x (by simp [ho, Op.operands]) _ hx
    have h2 := hop y (by simp [ho, Op.operands]) _ hy
    obtain ⟨h3, h4⟩ := run_binA (P := P) hv hc (rep_ok h1) (rep_ok h2) T w
    refine ⟨u, ?_, rep_raw_mk h4⟩
    unfold execOp
    simp only [ho, rep_raw h1, rep_raw h2, Sem.run_bind, run_eqGuard_int, Result.andThen_ok, h3, Sem.run_pure]
/-- Shifts: by a count within the kind's bits. -/
def shA (op : BinOp) (k : IntKind) (a b : Int) : Option (Option Prop × Value) :=
  match op with
  | .shl => some (some (0 ≤ b ∧ b ≤ k.bits), .int k (k.wrap (a * 2 ^ b.toNat)))
  | .shr => match k.signed with
    | true => some (some (0 ≤ a ∧ 0 ≤ b ∧ b ≤ k.bits), .int k (a / 2 ^ b.toNat))
    | false => some (some (0 ≤ b ∧ b ≤ k.bits), .int k (a / 2 ^ b.toNat))
  | _ => none
theorem OpS.shift {op : BinOp} {k j : IntKind} {a b : Int} {c : Option Prop} {u : Value} (ho : o.op = .binOp op T x y yT) (hx : ae x = some (AI k a)) (hy : ae y = some (AI j b)) (hv : shA op k a b = some (c, u)) (hc : Holds c) : OpS P G o ae [] [] [] [] (RV u) :=
  .quiet fun φ F w ρ hs hop => by
    have h1 := hop x (by simp [ho, Op.operands]) _ hx
    have h2 := hop y (by simp [ho, Op.operands]) _ hy
    have hok := rep_ok h1
    have key : ∃ hb : 0 ≤ b ∧ b ≤ k.bits, (op = .shl ∧ u = .int k (k.wrap (a * 2 ^ b.toNat))) ∨ (op = .shr ∧ 0 ≤ a ∧ u = .int k (a / 2 ^ b.toNat)) := by
      cases op <;> simp only [shA, reduceCtorEq] at hv
      · simp only [Option.some.injEq, Prod.mk.injEq] at hv
        obtain ⟨rfl, rfl⟩ := hv
        exact ⟨hc, .inl ⟨rfl, rfl⟩⟩
      · cases hk : k.signed with
        | true =>
          rw [hk] at hv
          simp only [Option.some.injEq, Prod.mk.injEq] at hv
          obtain ⟨rfl, rfl⟩ := hv
          exact ⟨hc.2, .inr ⟨rfl, hc.1, rfl⟩⟩
        | false =>
          rw [hk] at hv
          simp only [Option.some.injEq, Prod.mk.injEq] at hv
          obtain ⟨rfl, rfl⟩ := hv
          exact ⟨hc, .inr ⟨rfl, hok.nonneg hk, rfl⟩⟩
    obtain ⟨hb, key⟩ := key
    have hnb : ¬ b < 0 := by omega
    have hmin : min b.toNat k.bits = b.toNat := Nat.min_eq_left (by omega)
    rcases key with ⟨rfl, rfl⟩ | ⟨rfl, ha, rfl⟩
    · refine ⟨_, ?_, rep_raw_mk (wrap_ok _ _)⟩
      unfold execOp
      simp only [ho, rep_raw h1, rep_raw h2, Sem.run_bind, run_eqGuard_int, Result.andThen_ok]
      simp [Go.binOp, Op.shift, hnb, hmin]
    · refine ⟨_, ?_, rep_raw_mk (div_ok hok ha (by have : (0 : Int) < 2 ^ b.toNat := Int.pow_pos (by decide); omega))⟩
      unfold execOp
      simp only [ho, rep_raw h1, rep_raw h2, Sem.run_bind, run_eqGuard_int, Result.andThen_ok]
      have hp : (0 : Int) ≤ 2 ^ b.toNat := Int.pow_nonneg (by decide)
      simp [Go.binOp, Op.shift, hnb, hmin, Int.fdiv_eq_ediv_of_nonneg _ hp]
/-- What one value comes to. -/
def unA (op : UnOp) (v : Value) : Option (Option Prop × Value) :=
  match op, v with
  | .not, .bool b => some (none, .bool (!b))
  | .xor, .int k a => some (none, .int k (ibit .xor k (if k.signed then -1 else k.max) a))
  | .neg, .int .i64 a => some (some (-9223372036854775808 ≤ -a ∧ -a ≤ 9223372036854775807), .int .i64 (-a))
  | .neg, .int k a => some (none, .int k (k.wrap (-a)))
  | _, _ => none
theorem OpS.un {op : UnOp} {a u : Value} {c : Option Prop} (ho : o.op = .unOp op T x) (hx : ae x = some (RV a)) (hv : unA op a = some (c, u)) (hc : Holds c) : OpS P G o ae [] [] [] [] (RV u) :=
  .quiet fun φ F w ρ hs hop => by
    have h1 := rep_raw (hop x (by simp [ho, Op.operands]) _ hx)
    unfold unA at hv
    split at hv
    · cases hv
      refine ⟨_, ?_, rep_raw_mk rfl⟩
      unfold execOp
      simp only [ho, h1, Op.unary, Sem.run_pure, Sem.run_bind, Result.andThen_ok]
    · cases hv
      refine ⟨_, ?_, rep_raw_mk (ibit_ok _ _ _ _)⟩
      unfold execOp
      simp only [ho, h1, Op.unary, Op.intBits, Sem.run_pure, ibit, Sem.run_bind, Result.andThen_ok]
    · cases hv
      refine ⟨_, ?_, rep_raw_mk (v := .int .i64 _) hc⟩
      unfold execOp
      simp [ho, h1, Op.unary, Op.intArith, wrap_id (k := .i64) hc]
    · cases hv
      refine ⟨_, ?_, rep_raw_mk (wrap_ok _ _)⟩
      unfold execOp
      simp [ho, h1, Op.unary, Op.intArith]
    · cases hv
/-- From one kind to another: where it need not fit, only where it does. -/
def convA (j k : IntKind) (a : Int) : Option Prop :=
  match decide (ilo k ≤ ilo j) && decide (ihi j ≤ ihi k) with
  | true => none
  | false => some (ilo k ≤ a ∧ a ≤ ihi k)
theorem OpS.conv {src dst : TypeId} {j k : IntKind} {a : Int} {X Y : TI} (ho : o.op = .convert src dst x) (hx : ae x = some (AI j a)) (hs1 : tiOf P src = some Y) (hT : tiOf P dst = some X) (hk : X.k = .int k) (hc : Holds (convA j k a)) : OpS P G o ae [] [] [] [] (AI k a) :=
  .quiet fun φ F w ρ hs hop => by
    have h0 := hop x (by simp [ho, Op.operands]) _ hx
    have h1 := rep_raw h0
    have hok : okV (.int k a) := by
      have h2 : ilo j ≤ a ∧ a ≤ ihi j := rep_ok h0
      unfold convA at hc
      split at hc
      · rename_i h
        simp only [Bool.and_eq_true, decide_eq_true_eq] at h
        exact ⟨Int.le_trans h.1 h2.1, Int.le_trans h2.2 h.2⟩
      · exact hc
    obtain ⟨i1, d1, _, h3, _⟩ := tiOf_spec hs1
    obtain ⟨i2, d2, _, h4, _, _, _, h5⟩ := tiOf_spec hT
    have h6 := tk_int (h5.trans hk)
    subst h6
    refine ⟨.int k a, ?_, rep_raw_mk hok⟩
    unfold execOp
    simp only [ho, h1, convert, Sem.run_bind, run_underlying h3, run_underlying h4, Result.andThen_ok, Conv.intToInt, Sem.run_pure, wrap_id hok]
theorem OpS.pickB {b : Bool} {v1 v2 v : AV} (ho : o.op = .pick x y z) (hx : ae x = some (AB b)) (hy : b = true → ae y = some v) (hz : b = false → ae z = some v) : OpS P G o ae [] [] [] [] v :=
  .quiet fun φ F w ρ hs hop => by
    have h1 := rep_raw (hop x (by simp [ho, Op.operands]) _ hx)
    cases b with
    | true => exact ⟨ρ y, by unfold execOp; simp [ho, h1, asBool], hop y (by simp [ho, Op.operands]) _ (hy rfl)⟩
    | false => exact ⟨ρ z, by unfold execOp; simp [ho, h1, asBool], hop z (by simp [ho, Op.operands]) _ (hz rfl)⟩
theorem OpS.extr {i n : Nat} {g : Nat → AV} (ho : o.op = .extract x i) (hx : ae x = some (.tup n g)) (hi : i < n) : OpS P G o ae [] [] [] [] (g i) :=
  .quiet fun φ F w ρ hs hop => by
    have h1 := hop x (by simp [ho, Op.operands]) _ hx
    simp only [repAV] at h1
    obtain ⟨us, h2, h3, h4⟩ := h1
    have hlt : i < us.length := by omega
    exact ⟨us[i], by unfold execOp; simp [ho, h2, Instr.extract, List.getElem?_eq_getElem hlt], h4 i _ (List.getElem?_eq_getElem hlt)⟩
theorem getElem?_cut {us : List Value} {off s j : Nat} {v : Value} (h : ((us.drop off).take s)[j]? = some v) : us[off + j]? = some v ∧ j < s := by
  rw [List.getElem?_take] at h
  split at h
  · rw [List.getElem?_drop] at h; exact ⟨h, by assumption⟩
  · cases h
theorem cut_length {us : List Value} {off s : Nat} (h : off + s ≤ us.length) : ((us.drop off).take s).length = s := by simp; omega
theorem run_part {T' : TypeId} {Y : TI} (hT' : tiOf P T' = some Y) (hag : Y.k.agg = false → Y.size = 1) {us : List Value} {off : Nat} (hle : off + Y.size ≤ us.length) (w : World) : (part T' us.toArray off).run P w = .ok (packV Y.k.agg ((us.drop off).take Y.size)) w := by
  unfold part
  simp only [Sem.run_bind, run_isAgg hT', Result.andThen_ok]
  cases h : Y.k.agg with
  | true =>
    simp only [packV, if_true, Sem.run_bind, run_sizeOf hT', Result.andThen_ok, Sem.run_pure]
    congr 2
    apply Array.ext'
    simp [List.drop_take]
  | false =>
    have h1 := hag h
    have hlt : off < us.length := by omega
    simp [packV, h1, List.getElem?_eq_getElem hlt, List.take_one]
/-- A value of several cells, taken apart. -/
theorem OpS.fld {i n : Nat} {g : Nat → C} {X Y : TI} {fs : List (Nat × TypeId)} {off : Nat} {T' : TypeId} (ho : o.op = .field T x i) (hx : ae x = some (.agg n g)) (hT : tiOf P T = some X) (hk : X.k = .struct fs) (hf : fs[i]? = some (off, T')) (hT' : tiOf P T' = some Y) (hag : Y.k.agg = false → Y.size = 1)
    (hle : off + Y.size ≤ n) : OpS P G o ae [] [] [] [] (pkA Y.k.agg Y.size off g) :=
  .quiet fun φ F w ρ hs hop => by
    have h1 := hop x (by simp [ho, Op.operands]) _ hx
    simp only [repAV] at h1
    obtain ⟨us, h2, h3, h3'⟩ := h1
    obtain ⟨i1, d1, _, h4, _, _, _, h5⟩ := tiOf_spec hT
    obtain ⟨gs, rfl, hgs⟩ := tk_struct (h5.trans hk)
    have hg : ∃ f, gs[i]? = some f ∧ f.offset = off ∧ f.type = T' := by
      rw [← hgs] at hf
      simp only [List.getElem?_map, Array.getElem?_toList, Option.map_eq_some_iff, Prod.mk.injEq] at hf
      obtain ⟨f, h6, h7, h8⟩ := hf
      exact ⟨f, h6, h7, h8⟩
    obtain ⟨f, hf1, rfl, rfl⟩ := hg
    refine ⟨packV Y.k.agg ((us.drop f.offset).take Y.size), ?_, repAV_pkA (cut_length (by omega)) hag fun j v hv => h3' _ _ (getElem?_cut hv).1⟩
    unfold execOp
    simp only [ho, h2, Instr.field, Sem.run_bind, run_underlying h4, Result.andThen_ok, hf1, asAgg, Sem.run_pure, run_part hT' hag (show f.offset + Y.size ≤ us.length by omega)]
theorem OpS.idxA {k : IntKind} {a : Int} {m : Nat} {g : Nat → C} {X Y : TI} {n : Nat} {T' : TypeId} (ho : o.op = .index T x y) (hx : ae x = some (.agg m g)) (hy : ae y = some (AI k a)) (hT : tiOf P T = some X) (hk : X.k = .array n T') (hT' : tiOf P T' = some Y) (hag : Y.k.agg = false → Y.size = 1)
    (h0 : 0 ≤ a ∧ a < n) (hm : n * Y.size = m) : OpS P G o ae [] [] [] [] (pkA Y.k.agg Y.size (a.toNat * Y.size) g) :=
  .quiet fun φ F w ρ hs hop => by
    have hi := rep_raw (hop y (by simp [ho, Op.operands]) _ hy)
    have h2 := hop x (by simp [ho, Op.operands]) _ hx
    simp only [repAV] at h2
    obtain ⟨us, h2, h3, h3'⟩ := h2
    obtain ⟨i1, d1, _, h4, _, _, _, h5⟩ := tiOf_spec hT
    have h6 := tk_array (h5.trans hk)
    subst h6
    have hle : a.toNat * Y.size + Y.size ≤ us.length := by
      rw [h3, ← hm]
      have : a.toNat + 1 ≤ n := by omega
      have := Nat.mul_le_mul_right Y.size this
      rw [Nat.add_mul] at this
      omega
    refine ⟨packV Y.k.agg ((us.drop (a.toNat * Y.size)).take Y.size), ?_, repAV_pkA (cut_length hle) hag fun j v hv => h3' _ _ (getElem?_cut hv).1⟩
    unfold execOp
    simp only [ho, h2, hi, Instr.index, asIntOf, Sem.run_bind, Sem.run_pure, run_underlying h4, Result.andThen_ok, h0.1, h0.2, and_self, if_true, run_sizeOf hT', run_part hT' hag hle]

/-! ### strings -/
theorem OpS.cat {a b : List UInt8} (ho : o.op = .binOp .add T x y yT) (hx : ae x = some (AL a)) (hy : ae y = some (AL b)) (hl : a.length + b.length ≤ 9223372036854775807) : OpS P G o ae [] [] [] [] (AL (a ++ b)) :=
  .quiet fun φ F w ρ hs hop => by
    have h1 := rep_raw (hop x (by simp [ho, Op.operands]) _ hx)
    have h2 := rep_raw (hop y (by simp [ho, Op.operands]) _ hy)
    refine ⟨_, ?_, rep_raw_mk rfl⟩
    unfold execOp
    have := run_string_add_sum (P := P) (w := w) (str a) (str b) (by rw [str_size, str_size]; exact hl)
    simp only [ho, h1, h2, eqGuard, binOp, Sem.run_bind, Sem.run_pure, Result.andThen_ok]
    simp [this, ByteArray.mk_append_mk]
theorem OpS.eqS {a b : List UInt8} (ho : o.op = .binOp .eql T x y yT) (hx : ae x = some (AL a)) (hy : ae y = some (AL b)) : OpS P G o ae [] [] [] [] (AB (sb (a = b))) :=
  .quiet fun φ F w ρ hs hop => by
    have h1 := rep_raw (hop x (by simp [ho, Op.operands]) _ hx)
    have h2 := rep_raw (hop y (by simp [ho, Op.operands]) _ hy)
    refine ⟨_, ?_, rep_raw_mk rfl⟩
    unfold execOp
    simp only [ho, h1, h2, eqGuard, binOp, Op.stringOp, Sem.run_bind, Sem.run_pure, Result.andThen_ok]
    simp [sb_eq]
    rw [Bool.eq_iff_iff]; simp
theorem OpS.neS {a b : List UInt8} (ho : o.op = .binOp .neq T x y yT) (hx : ae x = some (AL a)) (hy : ae y = some (AL b)) : OpS P G o ae [] [] [] [] (AB (sb (a ≠ b))) :=
  .quiet fun φ F w ρ hs hop => by
    have h1 := rep_raw (hop x (by simp [ho, Op.operands]) _ hx)
    have h2 := rep_raw (hop y (by simp [ho, Op.operands]) _ hy)
    refine ⟨_, ?_, rep_raw_mk rfl⟩
    unfold execOp
    simp only [ho, h1, h2, eqGuard, binOp, Op.stringOp, Sem.run_bind, Sem.run_pure, Result.andThen_ok]
    simp [sb_eq]
    rw [Bool.eq_iff_iff]; simp
theorem OpS.idxS {l : List UInt8} {k : IntKind} {a : Int} {X : TI} (ho : o.op = .index T x y) (hx : ae x = some (AL l)) (hy : ae y = some (AI k a)) (hT : tiOf P T = some X) (hk : X.k = .string) (h0 : 0 ≤ a) (h1 : a < l.length) : OpS P G o ae [] [] [] [] (AI .u8 ((l.getD a.toNat 0).toNat : Int)) :=
  .quiet fun φ F w ρ hs hop => by
    have e1 := rep_raw (hop x (by simp [ho, Op.operands]) _ hx)
    have e2 := rep_raw (hop y (by simp [ho, Op.operands]) _ hy)
    obtain ⟨i1, d1, _, h4, _, _, _, h5⟩ := tiOf_spec hT
    have h6 := tk_string (h5.trans hk)
    subst h6
    have hb := UInt8.toNat_lt (l.getD a.toNat 0)
    refine ⟨_, ?_, rep_raw_mk (v := .int .u8 ((l.getD a.toNat 0).toNat : Int)) (show (0 : Int) ≤ _ ∧ _ ≤ (255 : Int) by omega)⟩
    have hlt : a.toNat < l.length := by omega
    have hget : (str l)[a.toNat]? = some (l.getD a.toNat 0) := by
      rw [ByteArray.getElem?_lt' _ _ (by rw [str_size]; exact hlt)]
      congr 1
      rw [List.getD_eq_getElem?_getD, List.getElem?_eq_getElem hlt]
      rfl
    unfold execOp
    simp only [ho, e1, e2, Instr.index, asIntOf, Sem.run_bind, Sem.run_pure, run_underlying h4, Result.andThen_ok, h0, if_true, hget]
theorem extract_str (l : List UInt8) (i j : Nat) : (str l).extract i j = str ((l.drop i).take (j - i)) := by
  apply ByteArray.ext
  simp [str, ByteArray.data_extract, List.extract_toArray]
theorem run_equal_bool {T : TypeId} (hT : P.underlying T = some .bool) (a b : Bool) (w : World) : (Op.equal T (.bool a) (.bool b)).run P w = .ok (a == b) w := by
  have key : ∀ d, (Op.equalIn (d + 1) T (.bool a) (.bool b)).run P w = .ok (a == b) w := fun d => by simp [Op.equalIn, run_underlying hT]
  exact key 9999
theorem run_equal_nil {T e : TypeId} (hT : P.underlying T = some (.pointer e)) (p q : Option Addr) (h : (p.isNone || q.isNone) = true) (w : World) : (Op.equal T (.pointer p) (.pointer q)).run P w = .ok (p.isNone && q.isNone) w := by
  have key : ∀ d, (Op.equalIn (d + 1) T (.pointer p) (.pointer q)).run P w = .ok (p.isNone && q.isNone) w := fun d => by
    cases p <;> cases q <;> simp [Op.equalIn, run_underlying hT] at h ⊢
  exact key 9999
theorem OpS.eqB {a b : Bool} {X : TI} (ho : o.op = .binOp .eql T x y yT) (hx : ae x = some (AB a)) (hy : ae y = some (AB b)) (hT : tiOf P T = some X) (hk : X.k = .bool) : OpS P G o ae [] [] [] [] (AB (a == b)) :=
  .quiet fun φ F w ρ hs hop => by
    have h1 := rep_raw (hop x (by simp [ho, Op.operands]) _ hx)
    have h2 := rep_raw (hop y (by simp [ho, Op.operands]) _ hy)
    obtain ⟨_, d, _, h4, _, _, _, h5⟩ := tiOf_spec hT
    have h6 : d = .bool := by have := h5.trans hk; cases d <;> simp [tkOf] at this <;> rfl
    subst h6
    refine ⟨_, ?_, rep_raw_mk rfl⟩
    unfold execOp
    simp [ho, h1, h2, eqGuard, binOp, run_equal_bool h4]
theorem OpS.neB {a b : Bool} {X : TI} (ho : o.op = .binOp .neq T x y yT) (hx : ae x = some (AB a)) (hy : ae y = some (AB b)) (hT : tiOf P T = some X) (hk : X.k = .bool) : OpS P G o ae [] [] [] [] (AB (a != b)) :=
  .quiet fun φ F w ρ hs hop => by
    have h1 := rep_raw (hop x (by simp [ho, Op.operands]) _ hx)
    have h2 := rep_raw (hop y (by simp [ho, Op.operands]) _ hy)
    obtain ⟨_, d, _, h4, _, _, _, h5⟩ := tiOf_spec hT
    have h6 : d = .bool := by have := h5.trans hk; cases d <;> simp [tkOf] at this <;> rfl
    subst h6
    refine ⟨_, ?_, rep_raw_mk rfl⟩
    unfold execOp
    simp [ho, h1, h2, eqGuard, binOp, run_equal_bool h4, bne]
/-- Is it the nil pointer? -/
def isNil : AV → Option Bool
  | .one (.d (.raw (.pointer none))) => some true
  | .one (.ptr _ _) => some false
  | .one (.ptrR _ _ _) => some false
  | .one (.d (.fptr _ _)) => some false
  | _ => none
theorem isNil_rep {φ F w} {v : AV} {b : Bool} {u : Value} (h : isNil v = some b) (hr : repAV φ F w v u) : ∃ p, u = .pointer p ∧ p.isNone = b := by
  unfold isNil at h
  split at h
  · cases h; exact ⟨none, rep_raw hr, rfl⟩
  · cases h; simp only [repAV, repC] at hr; obtain ⟨r, b, _, _, rfl⟩ := hr; exact ⟨_, rfl, rfl⟩
  · cases h; simp only [repAV, repC] at hr; obtain ⟨r, b, _, _, rfl⟩ := hr; exact ⟨_, rfl, rfl⟩
  · cases h; simp only [repAV, repC, repD] at hr; obtain ⟨b, off, rfl, _⟩ := hr; exact ⟨_, rfl, rfl⟩
  · cases h
theorem OpS.eqNil {op : BinOp} {va vb : AV} {a b : Bool} {X : TI} {e : TypeId} (ho : o.op = .binOp op T x y yT) (hop' : op = .eql ∨ op = .neq) (hx : ae x = some va) (hy : ae y = some vb) (ha : isNil va = some a) (hb : isNil vb = some b) (hab : (a || b) = true) (hT : tiOf P T = some X) (hk : X.k = .pointer e) : OpS P G o ae [] [] [] [] (AB (match op with | .eql => a && b | _ => !(a && b))) :=
  .quiet fun φ F w ρ hs hop => by
    obtain ⟨p, h1, h1'⟩ := isNil_rep ha (hop x (by simp [ho, Op.operands]) _ hx)
    obtain ⟨q, h2, h2'⟩ := isNil_rep hb (hop y (by simp [ho, Op.operands]) _ hy)
    obtain ⟨_, d, _, h4, _, _, _, h5⟩ := tiOf_spec hT
    have h6 := tk_pointer (h5.trans hk)
    subst h6
    refine ⟨_, ?_, rep_raw_mk rfl⟩
    have key := run_equal_nil h4 p q (by rw [h1', h2']; exact hab) w
    rw [h1', h2'] at key
    unfold execOp
    rcases hop' with rfl | rfl
    · simp [ho, h1, h2, eqGuard, binOp, key]
    · simp [ho, h1, h2, eqGuard, binOp, key]
end quiet
attribute [irreducible] sb
end Go.Bw
