/- The reference's list of parts: its contract. -/
import Derived.Test.YticpndkcicgenaaDoorBwTab
import Derived.Test.YticpndkcicgenaaDoorRef1
set_option linter.unusedVariables false
namespace Go.Proofs.YticpndkcicgenaaDoor
open Go.Bw
attribute [local irreducible] Go.Bw.OpS
set_option maxHeartbeats 4000000
set_option linter.all false

def refUp (L : List Cls) (b : Nat) : List Cls := ((List.range b).filter (isFirst L)).map (cl L)
theorem refUp_len (L : List Cls) (b : Nat) : (refUp L b).length ≤ b := by
  unfold refUp
  rw [List.length_map]
  exact Nat.le_trans (List.length_filter_le _ _) (by simp)
theorem refUp_succ (L : List Cls) (b : Nat) : refUp L (b + 1) = refUp L b ++ (if isFirst L b then [cl L b] else []) := by
  unfold refUp
  rw [List.range_succ, List.filter_append, List.map_append]
  congr 1
  by_cases h : isFirst L b
  · simp [h]
  · simp [h]
def fst' (L : List Cls) (b c : Nat) : Bool := (List.range c).all fun c => !alike L b c
theorem fst_succ (L : List Cls) (b c : Nat) : fst' L b (c + 1) = (fst' L b c && !alike L b c) := by
  unfold fst'
  rw [List.range_succ, List.all_append]
  simp
theorem fst_down {L : List Cls} {b c d : Nat} (h : fst' L b c = false) (hcd : c ≤ d) : fst' L b d = false := by
  unfold fst' at h ⊢
  rw [List.all_eq_false] at h ⊢
  obtain ⟨x, hx, hx'⟩ := h
  exact ⟨x, by simp at hx ⊢; omega, hx'⟩
abbrev rowCls (L : List Cls) : AObj := rowL 26 4 clsD 0#256 L

theorem refparts_ac (G) (L : List Cls) : ACalls Tryd.prog G 11 [lstC L] [] [] [] [((1000, 0), rowCls (refParts L))] (.one (.sl (1000, 0) 0 (refParts L).length)) := by
  refine acalls_fn xt Tryd.func11 [.one (.sl (1000, 0) 0 (refParts L).length)] rfl rfl rfl ?_
  (intro φ0 F0 w0; conv => whnf)
  repeat (first | (refine code_ap xt ?_; conv => whnf) | (refine And.intro (by omega) ?_; conv => whnf) | (refine And.intro (by simp only [andP, addO, mulO, IntKind.bits, Int.reduceToNat]; omega) ?_; conv => whnf) | (refine And.intro (draw_ok (by kernel_rfl) (by kernel_rfl)) ?_; conv => whnf) | (refine cond_T (by first | with_reducible assumption | omega) ?_) | (refine cond_F (by first | with_reducible assumption | omega) ?_) | (refine bcond_T (by first | with_reducible assumption | omega) ?_; conv => whnf) | (refine bcond_F (by first | with_reducible assumption | omega) ?_; conv => whnf) | (refine bcond_ble (by first | omega | (simp only [addO, mulO, Int.reduceToNat]; omega)) ?_; conv => whnf))
  refine loop_u (fun (b : Nat) => b ≤ 256) (fun b => [(3, .one (.sl (1000, 0) 0 (refUp L b).length)), (4, .one (.ptr (4, 0) 0))]) (fun b => [((4, 0), some (iO b)), ((1000, 0), some (rowCls (refUp L b)))]) (fun b => 256 - b) 0 (by omega) ?_
  conv => whnf
  refine And.intro ?_ ?_
  · conv => whnf
    ((repeat' (refine And.intro ?_ ?_)) <;> first | exact rfl | exact trivial | exact fun _ _ _ _ => CoD.refl _ | exact fun _ _ => CoD.refl _ | exact Nat.le_refl _ | omega | ((conv => whnf); first | omega | rfl))
  · intro b hb
    repeat (first | (refine code_ap xt ?_; conv => whnf) | (refine And.intro (by omega) ?_; conv => whnf) | (refine And.intro (by simp only [andP, addO, mulO, IntKind.bits, Int.reduceToNat]; omega) ?_; conv => whnf) | (refine And.intro (draw_ok (by kernel_rfl) (by kernel_rfl)) ?_; conv => whnf) | (refine cond_T (by first | with_reducible assumption | omega) ?_) | (refine cond_F (by first | with_reducible assumption | omega) ?_) | (refine bcond_T (by first | with_reducible assumption | omega) ?_; conv => whnf) | (refine bcond_F (by first | with_reducible assumption | omega) ?_; conv => whnf) | (refine bcond_ble (by first | omega | (simp only [addO, mulO, Int.reduceToNat]; omega)) ?_; conv => whnf))
    refine cond_s (fun hc => ?_) (fun hc => ?_)
    · have hb2 : b < 256 := by omega
      have hlen := refUp_len L b
      repeat (first | (refine code_ap xt ?_; conv => whnf) | (refine And.intro (by omega) ?_; conv => whnf) | (refine And.intro (by simp only [andP, addO, mulO, IntKind.bits, Int.reduceToNat]; omega) ?_; conv => whnf) | (refine And.intro (draw_ok (by kernel_rfl) (by kernel_rfl)) ?_; conv => whnf) | (refine cond_T (by first | with_reducible assumption | omega) ?_) | (refine cond_F (by first | with_reducible assumption | omega) ?_) | (refine bcond_T (by first | with_reducible assumption | omega) ?_; conv => whnf) | (refine bcond_F (by first | with_reducible assumption | omega) ?_; conv => whnf) | (refine bcond_ble (by first | omega | (simp only [addO, mulO, Int.reduceToNat]; omega)) ?_; conv => whnf))
      refine loop_leave 2 (fun (_ : Unit) => True) (fun _ => [(6, AB (isFirst L b))]) (fun _ => []) [] ?_
      conv => whnf
      refine And.intro ?_ ?_
      · refine loop_u (fun (x : Nat × Bool) => x.1 ≤ b ∧ x.2 = fst' L b x.1) (fun x => [(6, AB x.2), (7, AI .i64 (x.1 : Int))]) (fun _ => []) (fun x => b - x.1) (0, true) ⟨Nat.zero_le _, rfl⟩ ?_
        conv => whnf
        refine And.intro ?_ ?_
        · conv => whnf
          ((repeat' (refine And.intro ?_ ?_)) <;> first | exact rfl | exact trivial | exact fun _ _ _ _ => CoD.refl _ | exact fun _ _ => CoD.refl _ | exact Nat.le_refl _ | omega | ((conv => whnf); first | omega | rfl))
        · intro x ⟨hcb, hf⟩
          repeat (first | (refine code_ap xt ?_; conv => whnf) | (refine And.intro (by omega) ?_; conv => whnf) | (refine And.intro (by simp only [andP, addO, mulO, IntKind.bits, Int.reduceToNat]; omega) ?_; conv => whnf) | (refine And.intro (draw_ok (by kernel_rfl) (by kernel_rfl)) ?_; conv => whnf) | (refine cond_T (by first | with_reducible assumption | omega) ?_) | (refine cond_F (by first | with_reducible assumption | omega) ?_) | (refine bcond_T (by first | with_reducible assumption | omega) ?_; conv => whnf) | (refine bcond_F (by first | with_reducible assumption | omega) ?_; conv => whnf) | (refine bcond_ble (by first | omega | (simp only [addO, mulO, Int.reduceToNat]; omega)) ?_; conv => whnf))
          refine bcond_s (fun h => ?_) (fun h => ?_)
          · conv => whnf
            repeat (first | (refine code_ap xt ?_; conv => whnf) | (refine And.intro (by omega) ?_; conv => whnf) | (refine And.intro (by simp only [andP, addO, mulO, IntKind.bits, Int.reduceToNat]; omega) ?_; conv => whnf) | (refine And.intro (draw_ok (by kernel_rfl) (by kernel_rfl)) ?_; conv => whnf) | (refine cond_T (by first | with_reducible assumption | omega) ?_) | (refine cond_F (by first | with_reducible assumption | omega) ?_) | (refine bcond_T (by first | with_reducible assumption | omega) ?_; conv => whnf) | (refine bcond_F (by first | with_reducible assumption | omega) ?_; conv => whnf) | (refine bcond_ble (by first | omega | (simp only [addO, mulO, Int.reduceToNat]; omega)) ?_; conv => whnf))
            refine cond_b (fun hd => ?_) (fun hd => ?_)
            · repeat (first | (refine code_ap xt ?_; conv => whnf) | (refine And.intro (by omega) ?_; conv => whnf) | (refine And.intro (by simp only [andP, addO, mulO, IntKind.bits, Int.reduceToNat]; omega) ?_; conv => whnf) | (refine And.intro (draw_ok (by kernel_rfl) (by kernel_rfl)) ?_; conv => whnf) | (refine cond_T (by first | with_reducible assumption | omega) ?_) | (refine cond_F (by first | with_reducible assumption | omega) ?_) | (refine bcond_T (by first | with_reducible assumption | omega) ?_; conv => whnf) | (refine bcond_F (by first | with_reducible assumption | omega) ?_; conv => whnf) | (refine bcond_ble (by first | omega | (simp only [addO, mulO, Int.reduceToNat]; omega)) ?_; conv => whnf))
              (refine opx_call (alike_ac G L b x.1 hb2 (by omega)) (by kernel_rfl) rfl ?_; (conv => whnf); repeat (refine And.intro ?_ ?_; (focus (((repeat' (refine And.intro ?_ ?_)) <;> first | exact rfl | exact trivial | exact fun _ _ _ _ => CoD.refl _ | exact fun _ _ => CoD.refl _ | exact Nat.le_refl _ | omega | ((conv => whnf); first | omega | rfl)); done)); conv => whnf))
              repeat (first | (refine code_ap xt ?_; conv => whnf) | (refine And.intro (by omega) ?_; conv => whnf) | (refine And.intro (by simp only [andP, addO, mulO, IntKind.bits, Int.reduceToNat]; omega) ?_; conv => whnf) | (refine And.intro (draw_ok (by kernel_rfl) (by kernel_rfl)) ?_; conv => whnf) | (refine cond_T (by first | with_reducible assumption | omega) ?_) | (refine cond_F (by first | with_reducible assumption | omega) ?_) | (refine bcond_T (by first | with_reducible assumption | omega) ?_; conv => whnf) | (refine bcond_F (by first | with_reducible assumption | omega) ?_; conv => whnf) | (refine bcond_ble (by first | omega | (simp only [addO, mulO, Int.reduceToNat]; omega)) ?_; conv => whnf))
              (refine round_end ((x.1 + 1, !alike L b x.1)) (⟨by show x.1 + 1 ≤ b; omega, by show (!alike L b x.1) = fst' L b (x.1 + 1); rw [fst_succ, ← hf, hd]; rfl⟩) (by (try dsimp only); omega) ?_; (conv => whnf); ((repeat' (refine And.intro ?_ ?_)) <;> first | exact rfl | exact trivial | exact fun _ _ _ _ => CoD.refl _ | exact fun _ _ => CoD.refl _ | exact Nat.le_refl _ | omega | ((conv => whnf); first | omega | rfl)))
            · repeat (first | (refine code_ap xt ?_; conv => whnf) | (refine And.intro (by omega) ?_; conv => whnf) | (refine And.intro (by simp only [andP, addO, mulO, IntKind.bits, Int.reduceToNat]; omega) ?_; conv => whnf) | (refine And.intro (draw_ok (by kernel_rfl) (by kernel_rfl)) ?_; conv => whnf) | (refine cond_T (by first | with_reducible assumption | omega) ?_) | (refine cond_F (by first | with_reducible assumption | omega) ?_) | (refine bcond_T (by first | with_reducible assumption | omega) ?_; conv => whnf) | (refine bcond_F (by first | with_reducible assumption | omega) ?_; conv => whnf) | (refine bcond_ble (by first | omega | (simp only [addO, mulO, Int.reduceToNat]; omega)) ?_; conv => whnf))
              refine join_end () trivial ?_
              conv => whnf
              ((repeat' (refine And.intro ?_ ?_)) <;> first | (show x.2 = fst' L b b; rw [hd, fst_down (by rw [← hf]; exact hd) hcb]) | exact rfl | exact trivial | exact fun _ _ _ _ => CoD.refl _ | exact fun _ _ => CoD.refl _ | exact Nat.le_refl _ | omega | ((conv => whnf); first | (show x.2 = fst' L b b; rw [hd, fst_down (by rw [← hf]; exact hd) hcb]) | omega | rfl))
          · conv => whnf
            repeat (first | (refine code_ap xt ?_; conv => whnf) | (refine And.intro (by omega) ?_; conv => whnf) | (refine And.intro (by simp only [andP, addO, mulO, IntKind.bits, Int.reduceToNat]; omega) ?_; conv => whnf) | (refine And.intro (draw_ok (by kernel_rfl) (by kernel_rfl)) ?_; conv => whnf) | (refine cond_T (by first | with_reducible assumption | omega) ?_) | (refine cond_F (by first | with_reducible assumption | omega) ?_) | (refine bcond_T (by first | with_reducible assumption | omega) ?_; conv => whnf) | (refine bcond_F (by first | with_reducible assumption | omega) ?_; conv => whnf) | (refine bcond_ble (by first | omega | (simp only [addO, mulO, Int.reduceToNat]; omega)) ?_; conv => whnf))
            refine join_end () trivial ?_
            conv => whnf
            ((repeat' (refine And.intro ?_ ?_)) <;> first | (show x.2 = fst' L b b; rw [hf, show x.1 = b by omega]) | exact rfl | exact trivial | exact fun _ _ _ _ => CoD.refl _ | exact fun _ _ => CoD.refl _ | exact Nat.le_refl _ | omega | ((conv => whnf); first | (show x.2 = fst' L b b; rw [hf, show x.1 = b by omega]) | omega | rfl))
      · intro _ _
        have hs := refUp_succ L b
        conv => whnf
        repeat (first | (refine code_ap xt ?_; conv => whnf) | (refine And.intro (by omega) ?_; conv => whnf) | (refine And.intro (by simp only [andP, addO, mulO, IntKind.bits, Int.reduceToNat]; omega) ?_; conv => whnf) | (refine And.intro (draw_ok (by kernel_rfl) (by kernel_rfl)) ?_; conv => whnf) | (refine cond_T (by first | with_reducible assumption | omega) ?_) | (refine cond_F (by first | with_reducible assumption | omega) ?_) | (refine bcond_T (by first | with_reducible assumption | omega) ?_; conv => whnf) | (refine bcond_F (by first | with_reducible assumption | omega) ?_; conv => whnf) | (refine bcond_ble (by first | omega | (simp only [addO, mulO, Int.reduceToNat]; omega)) ?_; conv => whnf))
        refine cond_b (fun hd => ?_) (fun hd => ?_)
        · rw [hd] at hs
          have hs : refUp L (b + 1) = refUp L b ++ [cl L b] := hs
          repeat (first | (refine code_ap xt ?_; conv => whnf) | (refine And.intro (by omega) ?_; conv => whnf) | (refine And.intro (by simp only [andP, addO, mulO, IntKind.bits, Int.reduceToNat]; omega) ?_; conv => whnf) | (refine And.intro (draw_ok (by kernel_rfl) (by kernel_rfl)) ?_; conv => whnf) | (refine cond_T (by first | with_reducible assumption | omega) ?_) | (refine cond_F (by first | with_reducible assumption | omega) ?_) | (refine bcond_T (by first | with_reducible assumption | omega) ?_; conv => whnf) | (refine bcond_F (by first | with_reducible assumption | omega) ?_; conv => whnf) | (refine bcond_ble (by first | omega | (simp only [addO, mulO, Int.reduceToNat]; omega)) ?_; conv => whnf))
          (refine opx_call (where_ac G L b hb2) (by kernel_rfl) rfl ?_; (conv => whnf); repeat (refine And.intro ?_ ?_; (focus (((repeat' (refine And.intro ?_ ?_)) <;> first | exact rfl | exact trivial | exact fun _ _ _ _ => CoD.refl _ | exact fun _ _ => CoD.refl _ | exact Nat.le_refl _ | omega | ((conv => whnf); first | omega | rfl)); done)); conv => whnf))
          repeat (first | (refine code_ap xt ?_; conv => whnf) | (refine And.intro (by omega) ?_; conv => whnf) | (refine And.intro (by simp only [andP, addO, mulO, IntKind.bits, Int.reduceToNat]; omega) ?_; conv => whnf) | (refine And.intro (draw_ok (by kernel_rfl) (by kernel_rfl)) ?_; conv => whnf) | (refine cond_T (by first | with_reducible assumption | omega) ?_) | (refine cond_F (by first | with_reducible assumption | omega) ?_) | (refine bcond_T (by first | with_reducible assumption | omega) ?_; conv => whnf) | (refine bcond_F (by first | with_reducible assumption | omega) ?_; conv => whnf) | (refine bcond_ble (by first | omega | (simp only [addO, mulO, Int.reduceToNat]; omega)) ?_; conv => whnf))
          (refine round_end (b + 1) (by omega) (by (try dsimp only); omega) ?_; (conv => whnf); ((repeat' (refine And.intro ?_ ?_)) <;> first | exact (len_snoc hs).symm | exact Nat.le_of_eq (len_snoc hs) | (refine co_snocP hs ?_; ((repeat' (refine And.intro ?_ ?_)) <;> first | exact rfl | exact trivial | exact fun _ _ _ _ => CoD.refl _ | exact fun _ _ => CoD.refl _ | exact Nat.le_refl _ | omega | ((conv => whnf); first | exact (len_snoc hs).symm | exact Nat.le_of_eq (len_snoc hs) | (refine co_snocP hs ?_; ((repeat' (refine And.intro ?_ ?_)) <;> first | exact rfl | exact trivial | exact fun _ _ _ _ => CoD.refl _ | exact fun _ _ => CoD.refl _ | exact Nat.le_refl _ | omega | ((conv => whnf); first | omega | rfl))) | omega | rfl))) | exact rfl | exact trivial | exact fun _ _ _ _ => CoD.refl _ | exact fun _ _ => CoD.refl _ | exact Nat.le_refl _ | omega | ((conv => whnf); first | exact (len_snoc hs).symm | exact Nat.le_of_eq (len_snoc hs) | (refine co_snocP hs ?_; ((repeat' (refine And.intro ?_ ?_)) <;> first | exact rfl | exact trivial | exact fun _ _ _ _ => CoD.refl _ | exact fun _ _ => CoD.refl _ | exact Nat.le_refl _ | omega | ((conv => whnf); first | omega | rfl))) | omega | rfl)))
        · rw [hd] at hs
          have hs : refUp L (b + 1) = refUp L b := by rw [hs]; simp
          repeat (first | (refine code_ap xt ?_; conv => whnf) | (refine And.intro (by omega) ?_; conv => whnf) | (refine And.intro (by simp only [andP, addO, mulO, IntKind.bits, Int.reduceToNat]; omega) ?_; conv => whnf) | (refine And.intro (draw_ok (by kernel_rfl) (by kernel_rfl)) ?_; conv => whnf) | (refine cond_T (by first | with_reducible assumption | omega) ?_) | (refine cond_F (by first | with_reducible assumption | omega) ?_) | (refine bcond_T (by first | with_reducible assumption | omega) ?_; conv => whnf) | (refine bcond_F (by first | with_reducible assumption | omega) ?_; conv => whnf) | (refine bcond_ble (by first | omega | (simp only [addO, mulO, Int.reduceToNat]; omega)) ?_; conv => whnf))
          (refine round_end (b + 1) (by omega) (by (try dsimp only); omega) ?_; (conv => whnf); ((repeat' (refine And.intro ?_ ?_)) <;> first | exact len_eq hs | exact Nat.le_of_eq (len_eq hs).symm | exact co_eq hs | exact rfl | exact trivial | exact fun _ _ _ _ => CoD.refl _ | exact fun _ _ => CoD.refl _ | exact Nat.le_refl _ | omega | ((conv => whnf); first | exact len_eq hs | exact Nat.le_of_eq (len_eq hs).symm | exact co_eq hs | omega | rfl)))
    · have h4 : b = 256 := by omega
      subst h4
      repeat (first | (refine code_ap xt ?_; conv => whnf) | (refine And.intro (by omega) ?_; conv => whnf) | (refine And.intro (by simp only [andP, addO, mulO, IntKind.bits, Int.reduceToNat]; omega) ?_; conv => whnf) | (refine And.intro (draw_ok (by kernel_rfl) (by kernel_rfl)) ?_; conv => whnf) | (refine cond_T (by first | with_reducible assumption | omega) ?_) | (refine cond_F (by first | with_reducible assumption | omega) ?_) | (refine bcond_T (by first | with_reducible assumption | omega) ?_; conv => whnf) | (refine bcond_F (by first | with_reducible assumption | omega) ?_; conv => whnf) | (refine bcond_ble (by first | omega | (simp only [addO, mulO, Int.reduceToNat]; omega)) ?_; conv => whnf))
      ((repeat' (refine And.intro ?_ ?_)) <;> first | exact rfl | exact trivial | exact fun _ _ _ _ => CoD.refl _ | exact fun _ _ => CoD.refl _ | exact Nat.le_refl _ | omega | ((conv => whnf); first | omega | rfl))
end Go.Proofs.YticpndkcicgenaaDoor
