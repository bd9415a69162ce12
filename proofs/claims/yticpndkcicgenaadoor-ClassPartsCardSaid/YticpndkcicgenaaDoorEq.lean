/- Classes as keys and in lists: equality of two, equality of two lists of them. -/
import Derived.Test.YticpndkcicgenaaDoorBwTab
import Derived.Test.YticpndkcicgenaaDoorTz
set_option linter.unusedVariables false
namespace Go.Proofs.YticpndkcicgenaaDoor
open Go.Bw
attribute [local irreducible] Go.Bw.OpS
set_option maxHeartbeats 4000000
set_option linter.all false

def wds (c : Cls) : List Int := [wd c 0, wd c 1, wd c 2, wd c 3]
def clsV (c : Cls) : Value := .agg ((wds c).map (Value.int .u64)).toArray
theorem wds_inj {c d : Cls} (h : wds c = wds d) : c = d := by
  simp only [wds, List.cons.injEq] at h
  apply BitVec.eq_of_getLsbD_eq
  intro i hi
  have h1 := wb_bit c (i / 64) (i % 64) (by omega)
  have h2 := wb_bit d (i / 64) (i % 64) (by omega)
  rw [show 64 * (i / 64) + i % 64 = i by omega] at h1 h2
  rw [← h1, ← h2]
  have h3 : wd c (i / 64) = wd d (i / 64) := by
    have : i / 64 = 0 ∨ i / 64 = 1 ∨ i / 64 = 2 ∨ i / 64 = 3 := by omega
    rcases this with e | e | e | e <;> rw [e] <;> simp [h]
  unfold wd at h3
  congr 1
  omega
theorem cls_valOf (c : Cls) : Go.Bw.valOf (clsA c) = some (clsV c) := rfl
theorem cls_isKey (c : Cls) : isKey Tryd.prog 26 (clsV c) := by
  refine isKey_ints (xt.get rfl).1 rfl (xt.get rfl).1 rfl rfl rfl (by kernel_rfl) (by decide +kernel) rfl ?_
  intro x hx
  simp only [wds, List.mem_cons, List.not_mem_nil, or_false] at hx
  have hw : ∀ i, (Lit.int .u64 (wd c i)).wf = true := fun i => by
    have := wd_range c i
    have h1 : IntKind.u64.min = 0 := rfl
    have h2 : IntKind.u64.max = 18446744073709551615 := rfl
    simp only [Lit.wf, h1, h2]
    simp
    omega
  rcases hx with rfl | rfl | rfl | rfl <;> exact hw _
theorem eqTC : EqT Tryd.prog 26 := EqT.deep (by kernel_rfl) (by decide +kernel) (by decide +kernel) (by kernel_rfl) (by kernel_rfl) (by kernel_rfl)
theorem klC : KL Tryd.prog 26 := KL.deep (by kernel_rfl) (by decide +kernel) (by decide +kernel) (by kernel_rfl) (by kernel_rfl)
theorem clsV_inj {c d : Cls} (h : clsV c = clsV d) : c = d := by
  refine wds_inj ?_
  simp only [clsV, Value.agg.injEq, wds, List.map_cons, List.map_nil] at h
  have hi : ∀ a b : Int, Value.int .u64 a = Value.int .u64 b → a = b := fun a b e => by cases e; rfl
  have h := congrArg Array.toList h
  simp only [List.cons.injEq] at h
  simp only [wds, List.cons.injEq]
  exact ⟨hi _ _ h.1, hi _ _ h.2.1, hi _ _ h.2.2.1, hi _ _ h.2.2.2.1, trivial⟩
theorem OpS.neC {G} {o : Oper} {ae : Operand → Option AV} {x y : Operand} {c d : Cls} (ho : o.op = .binOp .neq 26 x y 26) (hx : ae x = some (clsA c)) (hy : ae y = some (clsA d)) : OpS Tryd.prog G o ae [] [] [] [] (AB (sb (c ≠ d))) :=
  (Go.Bw.OpS.eqA (op := .neq) eqTC ho (.inr rfl) hx hy (cls_valOf c) (cls_valOf d) (cls_isKey c) (cls_isKey d)).cast (by
    show AB (!eqV (clsV c) (clsV d)) = AB (sb (c ≠ d))
    congr 1
    rw [Bool.eq_iff_iff]
    unfold sb
    rw [Bool.not_eq_true', decide_eq_true_iff, ← Bool.not_eq_true, eqV_iff]
    exact not_congr ⟨clsV_inj, fun h => by rw [h]⟩)
abbrev lstC (L : List Cls) : AV := .one (.d (.lst 4 L.length (fun i => clsD (L.getD i 0#256))))
theorem equal_ac (G) (L M : List Cls) : ACalls Tryd.prog G 9 [lstC L, lstC M] [] [] [] [] (AB (sb (L = M))) := by
  refine acalls_fn xt Tryd.func9 [AB (sb (L = M))] rfl rfl rfl ?_
  (intro φ0 F0 w0; conv => whnf)
  refine code_lst 0 rfl fun hL => ?_
  refine code_lst 1 rfl fun hM => ?_
  repeat (first | (refine code_ap xt ?_; conv => whnf) | (refine And.intro (by omega) ?_; conv => whnf) | (refine And.intro (by simp only [andP, addO, mulO, IntKind.bits, Int.reduceToNat]; omega) ?_; conv => whnf) | (refine And.intro (draw_ok (by kernel_rfl) (by kernel_rfl)) ?_; conv => whnf) | (refine cond_T (by first | with_reducible assumption | omega) ?_) | (refine cond_F (by first | with_reducible assumption | omega) ?_) | (refine bcond_T (by first | with_reducible assumption | omega) ?_; conv => whnf) | (refine bcond_F (by first | with_reducible assumption | omega) ?_; conv => whnf) | (refine bcond_ble (by first | omega | (simp only [addO, mulO, Int.reduceToNat]; omega)) ?_; conv => whnf))
  refine cond_s (fun hc => ?_) (fun hc => ?_)
  · repeat (first | (refine code_ap xt ?_; conv => whnf) | (refine And.intro (by omega) ?_; conv => whnf) | (refine And.intro (by simp only [andP, addO, mulO, IntKind.bits, Int.reduceToNat]; omega) ?_; conv => whnf) | (refine And.intro (draw_ok (by kernel_rfl) (by kernel_rfl)) ?_; conv => whnf) | (refine cond_T (by first | with_reducible assumption | omega) ?_) | (refine cond_F (by first | with_reducible assumption | omega) ?_) | (refine bcond_T (by first | with_reducible assumption | omega) ?_; conv => whnf) | (refine bcond_F (by first | with_reducible assumption | omega) ?_; conv => whnf) | (refine bcond_ble (by first | omega | (simp only [addO, mulO, Int.reduceToNat]; omega)) ?_; conv => whnf))
    rw [sb_F (p := L = M) (by intro h; subst h; exact hc rfl)]
    ((repeat' (refine And.intro ?_ ?_)) <;> first | exact rfl | exact trivial | exact fun _ _ _ _ => CoD.refl _ | exact fun _ _ => CoD.refl _ | exact Nat.le_refl _ | omega | ((conv => whnf); first | omega | rfl))
  · have hlen : L.length = M.length := by omega
    repeat (first | (refine code_ap xt ?_; conv => whnf) | (refine And.intro (by omega) ?_; conv => whnf) | (refine And.intro (by simp only [andP, addO, mulO, IntKind.bits, Int.reduceToNat]; omega) ?_; conv => whnf) | (refine And.intro (draw_ok (by kernel_rfl) (by kernel_rfl)) ?_; conv => whnf) | (refine cond_T (by first | with_reducible assumption | omega) ?_) | (refine cond_F (by first | with_reducible assumption | omega) ?_) | (refine bcond_T (by first | with_reducible assumption | omega) ?_; conv => whnf) | (refine bcond_F (by first | with_reducible assumption | omega) ?_; conv => whnf) | (refine bcond_ble (by first | omega | (simp only [addO, mulO, Int.reduceToNat]; omega)) ?_; conv => whnf))
    refine loop_u (fun (i : Nat) => i ≤ L.length ∧ ∀ j, j < i → L.getD j 0#256 = M.getD j 0#256) (fun i => [(13, AI .i64 (i : Int)), (4, AB false)]) (fun i => []) (fun i => L.length - i) 0 ⟨by omega, by intro j hj; omega⟩ ?_
    conv => whnf
    refine And.intro ?_ ?_
    · conv => whnf
      ((repeat' (refine And.intro ?_ ?_)) <;> first | exact rfl | exact trivial | exact fun _ _ _ _ => CoD.refl _ | exact fun _ _ => CoD.refl _ | exact Nat.le_refl _ | omega | ((conv => whnf); first | omega | rfl))
    · intro i ⟨hi, hz⟩
      repeat (first | (refine code_ap xt ?_; conv => whnf) | (refine And.intro (by omega) ?_; conv => whnf) | (refine And.intro (by simp only [andP, addO, mulO, IntKind.bits, Int.reduceToNat]; omega) ?_; conv => whnf) | (refine And.intro (draw_ok (by kernel_rfl) (by kernel_rfl)) ?_; conv => whnf) | (refine cond_T (by first | with_reducible assumption | omega) ?_) | (refine cond_F (by first | with_reducible assumption | omega) ?_) | (refine bcond_T (by first | with_reducible assumption | omega) ?_; conv => whnf) | (refine bcond_F (by first | with_reducible assumption | omega) ?_; conv => whnf) | (refine bcond_ble (by first | omega | (simp only [addO, mulO, Int.reduceToNat]; omega)) ?_; conv => whnf))
      refine cond_s (fun hc => ?_) (fun hc => ?_)
      · have hiL : i < L.length := by omega
        have hiM : i < M.length := by omega
        repeat (first | (refine code_ap xt ?_; conv => whnf) | (refine And.intro (by omega) ?_; conv => whnf) | (refine And.intro (by simp only [andP, addO, mulO, IntKind.bits, Int.reduceToNat]; omega) ?_; conv => whnf) | (refine And.intro (draw_ok (by kernel_rfl) (by kernel_rfl)) ?_; conv => whnf) | (refine cond_T (by first | with_reducible assumption | omega) ?_) | (refine cond_F (by first | with_reducible assumption | omega) ?_) | (refine bcond_T (by first | with_reducible assumption | omega) ?_; conv => whnf) | (refine bcond_F (by first | with_reducible assumption | omega) ?_; conv => whnf) | (refine bcond_ble (by first | omega | (simp only [addO, mulO, Int.reduceToNat]; omega)) ?_; conv => whnf))
        (refine opx_q (OpS.neC (c := L.getD i 0#256) (d := M.getD i 0#256) rfl rfl rfl) ?_; conv => whnf)
        repeat (first | (refine code_ap xt ?_; conv => whnf) | (refine And.intro (by omega) ?_; conv => whnf) | (refine And.intro (by simp only [andP, addO, mulO, IntKind.bits, Int.reduceToNat]; omega) ?_; conv => whnf) | (refine And.intro (draw_ok (by kernel_rfl) (by kernel_rfl)) ?_; conv => whnf) | (refine cond_T (by first | with_reducible assumption | omega) ?_) | (refine cond_F (by first | with_reducible assumption | omega) ?_) | (refine bcond_T (by first | with_reducible assumption | omega) ?_; conv => whnf) | (refine bcond_F (by first | with_reducible assumption | omega) ?_; conv => whnf) | (refine bcond_ble (by first | omega | (simp only [addO, mulO, Int.reduceToNat]; omega)) ?_; conv => whnf))
        refine cond_s (fun hd => ?_) (fun hd => ?_)
        · repeat (first | (refine code_ap xt ?_; conv => whnf) | (refine And.intro (by omega) ?_; conv => whnf) | (refine And.intro (by simp only [andP, addO, mulO, IntKind.bits, Int.reduceToNat]; omega) ?_; conv => whnf) | (refine And.intro (draw_ok (by kernel_rfl) (by kernel_rfl)) ?_; conv => whnf) | (refine cond_T (by first | with_reducible assumption | omega) ?_) | (refine cond_F (by first | with_reducible assumption | omega) ?_) | (refine bcond_T (by first | with_reducible assumption | omega) ?_; conv => whnf) | (refine bcond_F (by first | with_reducible assumption | omega) ?_; conv => whnf) | (refine bcond_ble (by first | omega | (simp only [addO, mulO, Int.reduceToNat]; omega)) ?_; conv => whnf))
          rw [sb_F (p := L = M) (by intro h; subst h; exact hd rfl)]
          ((repeat' (refine And.intro ?_ ?_)) <;> first | exact rfl | exact trivial | exact fun _ _ _ _ => CoD.refl _ | exact fun _ _ => CoD.refl _ | exact Nat.le_refl _ | omega | ((conv => whnf); first | omega | rfl))
        · repeat (first | (refine code_ap xt ?_; conv => whnf) | (refine And.intro (by omega) ?_; conv => whnf) | (refine And.intro (by simp only [andP, addO, mulO, IntKind.bits, Int.reduceToNat]; omega) ?_; conv => whnf) | (refine And.intro (draw_ok (by kernel_rfl) (by kernel_rfl)) ?_; conv => whnf) | (refine cond_T (by first | with_reducible assumption | omega) ?_) | (refine cond_F (by first | with_reducible assumption | omega) ?_) | (refine bcond_T (by first | with_reducible assumption | omega) ?_; conv => whnf) | (refine bcond_F (by first | with_reducible assumption | omega) ?_; conv => whnf) | (refine bcond_ble (by first | omega | (simp only [addO, mulO, Int.reduceToNat]; omega)) ?_; conv => whnf))
          (refine round_end (i + 1) (⟨by omega, upto_succ hz (Decidable.of_not_not hd)⟩) (by (try dsimp only); omega) ?_; (conv => whnf); ((repeat' (refine And.intro ?_ ?_)) <;> first | exact rfl | exact trivial | exact fun _ _ _ _ => CoD.refl _ | exact fun _ _ => CoD.refl _ | exact Nat.le_refl _ | omega | ((conv => whnf); first | omega | rfl)))
      · have h4 : i = L.length := by omega
        repeat (first | (refine code_ap xt ?_; conv => whnf) | (refine And.intro (by omega) ?_; conv => whnf) | (refine And.intro (by simp only [andP, addO, mulO, IntKind.bits, Int.reduceToNat]; omega) ?_; conv => whnf) | (refine And.intro (draw_ok (by kernel_rfl) (by kernel_rfl)) ?_; conv => whnf) | (refine cond_T (by first | with_reducible assumption | omega) ?_) | (refine cond_F (by first | with_reducible assumption | omega) ?_) | (refine bcond_T (by first | with_reducible assumption | omega) ?_; conv => whnf) | (refine bcond_F (by first | with_reducible assumption | omega) ?_; conv => whnf) | (refine bcond_ble (by first | omega | (simp only [addO, mulO, Int.reduceToNat]; omega)) ?_; conv => whnf))
        rw [sb_T (p := L = M) (ext_getD 0#256 hlen (by rw [← h4]; exact hz))]
        ((repeat' (refine And.intro ?_ ?_)) <;> first | exact rfl | exact trivial | exact fun _ _ _ _ => CoD.refl _ | exact fun _ _ => CoD.refl _ | exact Nat.le_refl _ | omega | ((conv => whnf); first | omega | rfl))
end Go.Proofs.YticpndkcicgenaaDoor
