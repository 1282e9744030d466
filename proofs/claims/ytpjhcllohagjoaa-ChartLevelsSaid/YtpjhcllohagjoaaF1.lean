/-
  Functions of the program as typed Lean functions, each with the proof that the call does what it says. Own work, written by a program of this session's (gen.py).
-/
import Derived.Test.YtpjhcllohagjoaaF0
namespace Go.Proofs.Ytpjhcllohagjoaa
open S
set_option linter.unusedVariables false
set_option maxRecDepth 100000
set_option maxHeartbeats 4000000

/-! ### deps_row: function 27 -/
def deps_row (K : Nat) (a_1 : Edge) (b_2 : Edge) : Option Int := (cmp_Compare_int K a_1.From b_2.From).bind fun r_3 => (cmp_Compare_int K a_1.To b_2.To).bind fun r_5 => (deps_bit K a_1.Neg).bind fun r_7 => (deps_bit K b_2.Neg).bind fun r_9 => (cmp_Or_int K ([r_3, r_5, IntKind.wrap .i64 (r_7 - r_9)] : List Int)).bind fun r_11 => some r_11
theorem deps_row_ok (K : Nat) (a_1 : Edge) (b_2 : Edge) : Pure Try.prog 27 [.agg (cEdge.e a_1), .agg (cEdge.e b_2)] (deps_row K a_1 b_2) (fun r => Ai .i64 r) := by
  refine spec_of' Try.func27 rfl Try.ntmps27 (le_ rfl) ?_
  refine sSeq <| sReg rfl <| sQ (dBoxF (az := cEdge.e a_1) rfl cAgg) rfl <| sQ (dBoxF (az := cEdge.e b_2) rfl cAgg) rfl <| sQ (dAs rfl) rfl <| sEnd <| sSeq <| sVal fun r_3 e_4 => sVal fun r_5 e_6 => sVal fun r_7 e_8 => sVal fun r_9 e_10 => sVal fun r_11 e_12 => sDraw 20 mixed rfl (by kernel_rfl) (by kernel_rfl) (by kernel_rfl) (.c (.r (dFA fa67_0 rfl)) rfl rfl <| .c (.r (dLd g3 rfl rfl)) rfl rfl <| .c (.r (dFA fa67_0 rfl)) rfl rfl <| .c (.r (dLd g3 rfl rfl)) rfl rfl <| .c (.r (dCall ent38 (cmp_Compare_int_ok K _ _) e_4 (.s rfl <| .s rfl .nil))) rfl rfl <| .c (.r (dFA fa67_1 rfl)) rfl rfl <| .c (.r (dLd g3 rfl rfl)) rfl rfl <| .c (.r (dFA fa67_1 rfl)) rfl rfl <| .c (.r (dLd g3 rfl rfl)) rfl rfl <| .c (.r (dCall ent38 (cmp_Compare_int_ok K _ _) e_6 (.s rfl <| .s rfl .nil))) rfl rfl <| .c (.r (dFA fa67_2 rfl)) rfl rfl <| .c (.r (dLd g4 rfl rfl)) rfl rfl <| .c (.r (dCall ent39 (deps_bit_ok K _) e_8 (.s rfl .nil))) rfl rfl <| .c (.r (dFA fa67_2 rfl)) rfl rfl <| .c (.r (dLd g4 rfl rfl)) rfl rfl <| .c (.r (dCall ent39 (deps_bit_ok K _) e_10 (.s rfl .nil))) rfl rfl <| .c (.r (dSub rfl rfl)) rfl rfl <| .c (.r (dBS (c := (cI .i64)) (xs := ([r_3, r_5, IntKind.wrap .i64 (r_7 - r_9)] : List Int)) Try.underlying50 z3 info3 (.c rfl (cOne (oLit rfl)) (.c rfl (cOne (oLit rfl)) (.c rfl (cOne (oLit rfl)) .nil))) rfl)) rfl rfl <| .c (.r (dCall ent37 (cmp_Or_int_ok K _) e_12 (.s rfl .nil))) rfl rfl <| .c (.r (dAs rfl)) rfl rfl .n) rfl <| sEnd <| sRet1 [] Try.func27 Try.results27 (rT rfl) ⟨rfl, rfl⟩

end Go.Proofs.Ytpjhcllohagjoaa
