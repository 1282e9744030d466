/-
  Sim: maps.Keys, slices.Collect, slices.SortedFunc over a map that the call owns. Own work; no claim stands here.
-/
import Derived.Test.YtpjhcllohagjoaaSV
namespace Go.Proofs.Ytpjhcllohagjoaa
namespace S
open Go.RowKit
set_option linter.unusedVariables false
set_option linter.unusedSimpArgs false
set_option linter.unusedSectionVars false
set_option maxRecDepth 100000

section
variable {P : Program} {f : FuncId} {n : Nat} {H : List Res} {fr : Fr} {ty : TypeId} {κ ν : Type} {c : Co κ} {ek : κ → Value} {ev : ν → Value} {kt tS : TypeId}

theorem dMkF {g b : Nat} {y : Operand} (hy : arg fr y = some (.fptr [.lit (.map (some b))])) : D P n H (.makeFunc (.func g) #[] #[y]) ty fr (.keys g b) :=
  .of fun o ho hty w Z F ρ _ hf => by
    have hp := hf (by simp [Op.operands]) hy
    exact ⟨.func (.func g) #[] #[ρ y], by simp [execOp, ho, Instr.makeFunc, Sem.run_bind], ρ y, rfl, hp⟩

/-- maps.Keys. -/
theorem keysFn {tM : TypeId} {b g : Nat} {fn : Func} {i0 i1 : Nat} {t1 t2 t3 t4 : TypeId} {p1 p2 p3 p4 : String} {a1 a2 a3 a4 : Array Edge}
    (hf : P.funcs[f]? = some fn) (hn : fn.ntmps = 4) (hr : fn.results = #[.tmp 2])
    (hb : fn.body = some (.seq (.region i0 #[⟨some 1, .box tM (.tmp 0), t1, p1, a1, none⟩, ⟨some 2, .assign (.const .nilFunc), t2, p2, a2, none⟩] false)
      (.seq (.region i1 #[⟨some 3, .makeFunc (.func g) #[] #[.tmp 1], t3, p3, a3, none⟩, ⟨some 2, .assign (.tmp 3), t4, p4, a4, none⟩] false) .ret))) :
    Pure P f [.lit (.map (some b))] (some ()) fun _ => .keys g b :=
  spec_of' hf hb hn (by exact (show 1 ≤ 4 by decide)) <| sSeq <| sReg rfl <| sQ (dBoxF (az := [.lit (.map (some b))]) rfl (cOne (oLit rfl))) rfl <| sQ (dAs rfl) rfl <| sEnd <| sSeq <| sReg rfl <| sQ (dMkF rfl) rfl <| sQ (dAs rfl) rfl <| sEnd <| sRet1 [] hf hr (rT rfl) ⟨rfl, rfl⟩

/-- What the keys come to: in some order. -/
def KeysPost (kt : TypeId) (c : Co κ) (ek : κ → Value) (ev : ν → Value) (b : Nat) (es : List (κ × ν)) (a : AV) (H : List Res) : Prop := ∃ v ss, a = .sv v ∧ ss.Perm (es.map (·.1)) ∧ H = [.own kt c v ss, .mp ek ev b es]

/-- slices.Collect. -/
theorem collectFn {b g f44 : Nat} {es : List (κ × ν)} (hg : Ent P f44) (hap : Spec P f44 [.lit (.slice none 0 0), .keys g b] [.mp ek ev b es] (KeysPost kt c ek ev b es))
    {fn : Func} {i0 i1 : Nat} {t1 t2 t3 t4 : TypeId} {q : Array TypeId} {p1 p2 p3 p4 : String} {a1 a2 a3 a4 : Array Edge}
    (hf : P.funcs[f]? = some fn) (hn : fn.ntmps = 5) (hr : fn.results = #[.tmp 2])
    (hb : fn.body = some (.seq (.region i0 #[⟨some 2, .assign (.const (.slice none 0 0)), t1, p1, a1, none⟩] false)
      (.seq (.region i1 #[⟨some 3, .move (.tmp 0), t2, p2, a2, none⟩, ⟨some 4, .call ⟨.value (.func f44), #[.const (.slice none 0 0), .tmp 3], q⟩, t3, p3, a3, none⟩, ⟨some 2, .assign (.tmp 4), t4, p4, a4, none⟩] false) .ret))) :
    Spec P f [.keys g b] [.mp ek ev b es] (KeysPost kt c ek ev b es) := by
  have main := spec_of (H := [.mp ek ev b es]) (avs := [.keys g b]) (x := some ()) (K := fun (_ : Unit) a H => KeysPost kt c ek ev b es a H) hf hb (by rw [hn]; exact (show 1 ≤ 5 by decide)) ?_
  · exact main () rfl
  rw [hn]
  refine sSeq <| sReg rfl <| sQ (dAs rfl) rfl <| sEnd <| sSeq <| sReg rfl <| sQ (dMv rfl) rfl <| sCallK [0] hg rfl hap rfl (.s rfl (.s rfl .nil)) rfl fun av H' h => ?_
  obtain ⟨v, ss, rfl, hp, rfl⟩ := h
  exact sQ (dAs rfl) rfl <| sEnd <| sRet1 [] hf hr (rT rfl) ⟨v, ss, rfl, hp, rfl⟩

/-- slices.SortedFunc. -/
theorem sortedFn {b g f32 f33 gc : Nat} {es : List (κ × ν)} {Sd : List κ → Prop} (hg : Ent P f32) (hg' : Ent P f33) (hco : Spec P f32 [.keys g b] [.mp ek ev b es] (KeysPost kt c ek ev b es))
    (hso : ∀ v ss, ss.Perm (es.map (·.1)) → Spec P f33 [.sv v, .lit (.func (.func gc) #[] #[])] [.own kt c v ss] fun a H => ∃ ys, ys.Perm ss ∧ Sd ys ∧ H = [.own kt c v ys])
    {fn : Func} {i0 i1 i2 i3 : Nat} {t1 t2 t3 t4 t5 t6 t7 t8 t9 : TypeId} {q q' : Array TypeId} {p1 p2 p3 p4 p5 p6 p7 p8 p9 : String} {a1 a2 a3 a4 a5 a6 a7 a8 a9 : Array Edge}
    (hf : P.funcs[f]? = some fn) (hn : fn.ntmps = 12) (hr : fn.results = #[.tmp 4])
    (hb : fn.body = some (.seq (.region i0 #[⟨some 4, .assign (.const (.slice none 0 0)), t1, p1, a1, none⟩] false)
      (.seq (.region i1 #[⟨some 6, .move (.tmp 0), t2, p2, a2, none⟩, ⟨some 7, .call ⟨.value (.func f32), #[.tmp 6], q⟩, t3, p3, a3, none⟩, ⟨some 5, .assign (.tmp 7), t4, p4, a4, none⟩] false)
        (.seq (.region i2 #[⟨some 8, .move (.tmp 5), t5, p5, a5, none⟩, ⟨some 9, .move (.tmp 1), t6, p6, a6, none⟩, ⟨some 10, .call ⟨.value (.func f33), #[.tmp 8, .tmp 9], q'⟩, t7, p7, a7, none⟩] false)
          (.seq (.region i3 #[⟨some 11, .move (.tmp 5), t8, p8, a8, none⟩, ⟨some 4, .assign (.tmp 11), t9, p9, a9, none⟩] false) .ret))))) :
    Spec P f [.keys g b, .lit (.func (.func gc) #[] #[])] [.mp ek ev b es] fun a H => ∃ v ys, a = .sv v ∧ ys.Perm (es.map (·.1)) ∧ Sd ys ∧ H = [.own kt c v ys, .mp ek ev b es] := by
  have main := spec_of (H := [.mp ek ev b es]) (avs := [.keys g b, .lit (.func (.func gc) #[] #[])]) (x := some ()) (K := fun (_ : Unit) a H => ∃ v ys, a = .sv v ∧ ys.Perm (es.map (·.1)) ∧ Sd ys ∧ H = [.own kt c v ys, .mp ek ev b es]) hf hb (by rw [hn]; exact (show 2 ≤ 12 by decide)) ?_
  · exact main () rfl
  rw [hn]
  refine sSeq <| sReg rfl <| sQ (dAs rfl) rfl <| sEnd <| sSeq <| sReg rfl <| sQ (dMv rfl) rfl <| sCallK [0] hg rfl hco rfl (.s rfl .nil) rfl fun av H' h => ?_
  obtain ⟨v, ss, rfl, hp, rfl⟩ := h
  refine sQ (dAs rfl) rfl <| sEnd <| sSeq <| sReg rfl <| sQ (dMv rfl) rfl <| sQ (dMv rfl) rfl <| sCallK [0] hg' rfl (hso v ss hp) rfl (.s rfl (.s rfl .nil)) rfl fun av H' h => ?_
  obtain ⟨ys, hp2, hs, rfl⟩ := h
  exact sEnd <| sSeq <| sReg rfl <| sQ (dMv rfl) rfl <| sQ (dAs rfl) rfl <| sEnd <| sRet1 [] hf hr (rT rfl) ⟨v, ys, rfl, hp2.trans hp, hs, rfl⟩
end
end S
end Go.Proofs.Ytpjhcllohagjoaa
