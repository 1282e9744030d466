/-
  Sim: the iterator of maps.Keys, against AppendSeq's loop. Own work; no claim stands here.
-/
import Derived.Test.YtpjhcllohagjoaaSS
namespace Go.Proofs.Ytpjhcllohagjoaa
namespace S
open Go.RowKit
set_option linter.unusedVariables false
set_option linter.unusedSimpArgs false
set_option linter.unusedSectionVars false
set_option maxRecDepth 100000

/-- Types and tables that the walk asks for. -/
structure KeysTy (P : Program) {κ ν : Type} (c : Co κ) (ek : κ → Value) (ev : ν → Value) (tM kt et tS : TypeId) (zs : List Value) (az : List AV) (z : Value) (bytes : Nat) : Prop where
  ht : P.underlying tM = some (.map kt et)
  gM : IsAgg P tM false
  hS : P.underlying tS = some (.slice kt)
  gS : IsAgg P tS false
  zS : SizeIs P tS 1
  gE : IsAgg P kt true
  zE : SizeIs P kt c.sz
  info : Info P kt z c.sz bytes
  zz : z.cells.size = c.sz
  b0 : 0 < bytes
  mx : Nat.ble (1 * c.sz) 16777216 = true
  al : ∀ w, (Instr.alloc kt true (.tuple #[])).run P w = .ok (.pointer (some ⟨w.heap.size, 0, none⟩)) (w.alloc (.cells zs.toArray kt))
  azp : ∀ Z w, AllP Z w az zs
  azl : az.length = c.sz
  cell : ∀ k, CellsOf (.lit (ek k)) (c.e k)

/-- AppendSeq's loop record, as far as a round looks at it. -/
structure ApRec (tS kt : TypeId) (Bs : Nat) (rec : Loop) : Prop where
  sz : rec.tmps.size = 13
  box : rec.tmps.getD 2 undef = .pointer (some ⟨Bs, 0, none⟩)
  par : rec.params = #[7]
  st : rec.state = .ready
  pe : rec.pending = none
  as : ∃ i2 t1 p1 a1 t2 p2 a2, rec.assign = .region i2 #[⟨some 5, .alloc kt, t1, p1, a1, none⟩, ⟨none, .store kt (.tmp 5) (.tmp 7), t2, p2, a2, none⟩] false
  bd : ∃ i1 i3 t3 p3 a3 t4 p4 a4 t5 p5 a5 t6 p6 a6 t7 p7 a7, rec.body = .block i1 (.region i3 #[⟨some 8, .load tS (.tmp 2), t3, p3, a3, none⟩, ⟨some 9, .load kt (.tmp 5), t4, p4, a4, none⟩, ⟨some 10, .buildSlice tS 1 #[(0, .tmp 9)], t5, p5, a5, none⟩, ⟨some 11, .call ⟨.builtin .append, #[.tmp 8, .tmp 10], #[tS, tS]⟩, t6, p6, a6, none⟩, ⟨none, .store tS (.tmp 2) (.tmp 11), t7, p7, a7, none⟩] false)

section
variable {P : Program} {κ ν : Type} {c : Co κ} {ek : κ → Value} {ev : ν → Value} {tM kt et tS : TypeId} {zs : List Value} {az : List AV} {z : Value} {bytes : Nat}

theorem rounds_of (Y : KeysTy P c ek ev tM kt et tS zs az z bytes) {Bs l : Nat} {rec : Loop} (A : ApRec tS kt Bs rec) {v : Value} {ss : List κ} (x : κ) (hb : (ss.length + 1) * bytes ≤ 140737488355328) :
    Rounds P l [.agg (c.e x)] [.box Bs [.sv v], .own kt c v ss, .obj l (.loop rec)] fun a H => ∃ v', a = Ab true ∧ H = [.box Bs [.sv v'], .own kt c v' (ss ++ [x]), .obj l (.loop rec)] := by
  obtain ⟨i2, t1, p1, a1, t2, p2, a2, has⟩ := A.as
  obtain ⟨i1, i3, t3, p3, a3, t4, p4, a4, t5, p5, a5, t6, p6, a6, t7, p7, a7, hbd⟩ := A.bd
  exact apRound Y.hS Y.gS Y.zS Y.gE Y.zE Y.info Y.zz Y.b0 Y.mx Y.al Y.azp Y.azl A.sz A.box A.par A.st A.pe has hbd hb

theorem perm_erase {α : Type} : ∀ {l : List α} {i : Nat} {a : α}, l[i]? = some a → l.Perm (a :: l.eraseIdx i)
  | b :: l, 0, a, h => by simp at h; subst h; exact List.Perm.refl _
  | b :: l, i + 1, a, h => by
    have := perm_erase (l := l) (i := i) (a := a) (by simpa using h)
    exact ((this.cons b).trans (List.Perm.swap ..))

set_option maxHeartbeats 1000000 in
/-- maps.Keys' iterator: each key goes through yield once, in some order. -/
theorem keysIter (Y : KeysTy P c ek ev tM kt et tS zs az z bytes) {Bs l b : Nat} {rec : Loop} (A : ApRec tS kt Bs rec) {v : Value} {es : List (κ × ν)} (hbd : es.length * bytes ≤ 140737488355328)
    {g : FuncId} {fn : Func} {i0 i2 i4 i5 : Nat} {t1 t2 t3 t4 t5 t6 t7 t8 t9 t10 t11 t12 t13 : TypeId} {q : Array TypeId} {p1 p2 p3 p4 p5 p6 p7 p8 p9 p10 p11 p12 : String} {a1 a2 a3 a4 a5 a6 a7 a8 a9 a10 a11 a12 : Array Edge}
    (hf : P.funcs[g]? = some fn) (hn : fn.ntmps = 14) (hr : fn.results = #[])
    (hb : fn.body = some (.seq (.region i0 #[⟨some 4, .load tM (.tmp 1), t1, p1, a1, none⟩, ⟨some 5, .range tM (.tmp 4), t2, p2, a2, none⟩] false)
      (.block 0 (.loop (.seq (.region i2 #[⟨some 6, .next (.tmp 5) false, t3, p3, a3, none⟩, ⟨some 7, .extract (.tmp 6) 0, t4, p4, a4, none⟩] false)
        (.seq (.cond (.tmp 7) .skip (.exit 0)) (.block 1 (.seq (.region i4 #[⟨some 8, .entry (.tmp 5), t5, p5, a5, none⟩, ⟨some 9, .extract (.tmp 8) 0, t6, p6, a6, none⟩, ⟨some 3, .alloc kt, t7, p7, a7, none⟩, ⟨none, .store kt (.tmp 3) (.tmp 9), t8, p8, a8, none⟩] false)
          (.seq (.region i5 #[⟨some 10, .move (.tmp 0), t9, p9, a9, none⟩, ⟨some 11, .load kt (.tmp 3), t10, p10, a10, none⟩, ⟨some 12, .call ⟨.value (.tmp 10), #[.tmp 11], q⟩, t11, p11, a11, none⟩, ⟨some 13, .unOp .not t13 (.tmp 12), t12, p12, a12, none⟩] false)
            (.cond (.tmp 13) .ret .skip)))))))))) :
    Spec P g [.lit (.func (.yield l) #[] #[]), .fptr [.lit (.map (some b))]] [.mp ek ev b es, .box Bs [.sv v], .own kt c v [], .obj l (.loop rec)]
      fun a H => ∃ v' ss, ss.Perm (es.map (·.1)) ∧ H = [.mp ek ev b es, .box Bs [.sv v'], .own kt c v' ss, .obj l (.loop rec)] := by
  have main := spec_of (H := [.mp ek ev b es, .box Bs [.sv v], .own kt c v [], .obj l (.loop rec)]) (avs := [.lit (.func (.yield l) #[] #[]), .fptr [.lit (.map (some b))]]) (x := some ()) (K := fun (_ : Unit) (a : AV) H => ∃ v' ss, ss.Perm (es.map (·.1)) ∧ H = [.mp ek ev b es, .box Bs [.sv v'], .own kt c v' ss, .obj l (.loop rec)]) hf hb (by rw [hn]; exact (show 2 ≤ 14 by decide)) ?_
  · exact main () rfl
  rw [hn]
  refine sSeq <| sReg rfl <| sQ (dLd Y.gM rfl rfl) rfl <| sRange (j := 0) Y.ht rfl rfl rfl fun r => sEnd ?_
  refine sBlk ?_
  refine (sWk [] (fr' := [(0, .lit (.func (.yield l) #[] #[])), (5, .lit (.pointer (some ⟨r, 0, none⟩)))]) ⟨rfl, rfl, trivial⟩ rfl ?_)
  refine sWhile (σ := { s : List (κ × ν) × Option (κ × ν) × List κ × Value // (s.2.2.1 ++ s.1.map (·.1)).Perm (es.map (·.1)) }) (fun s => s.1.1.length)
    (fun s => [(0, .lit (.func (.yield l) #[] #[])), (5, .lit (.pointer (some ⟨r, 0, none⟩)))])
    (fun s => [.it ek ev b r es s.1.1 s.1.2.1, .box Bs [.sv s.1.2.2.2], .own kt c s.1.2.2.2 s.1.2.2.1, .obj l (.loop rec)]) ?_ ⟨(es, none, [], v), List.Perm.refl _⟩
  rintro ⟨⟨left, cur, ss, v⟩, hp⟩ again
  simp only at hp again ⊢
  refine sSeq <| sReg rfl <| sNext (j := 0) rfl rfl rfl (fun hl => ?_) (fun i p hi => ?_)
  · refine sQ (dX rfl rfl) rfl <| sEnd <| sSeq <| sCondF rfl rfl <| sExit rfl <| sWeak 0 rfl it_mp <| sFin0 hf hr ?_
    subst hl
    exact ⟨v, ss, by simpa using hp, rfl⟩
  · have hlen : ss.length + left.length = es.length := by have := hp.length_eq; simpa using this
    have hil : i < left.length := (List.getElem?_eq_some_iff.1 hi).1
    have hb1 : (ss.length + 1) * bytes ≤ 140737488355328 := Nat.le_trans (Nat.mul_le_mul_right _ (by omega)) hbd
    refine sQ (dX rfl rfl) rfl <| sEnd <| sSeq <| sCondT rfl rfl <| sSkip <| sBlk <| sSeq <| sReg rfl <| sQ (dEntry (j := 0) rfl rfl) rfl <| sQ (dX rfl rfl) rfl <| sAlloc Y.al Y.azp rfl fun b3 => ?_
    refine sStB (j := 0) (bs := c.e p.1) Y.zE rfl rfl rfl (Y.cell p.1) (c.one _) (c.len _) (by rw [Y.azl]; omega) ?_
    have hsp : splice az 0 (c.e p.1) = c.e p.1 := by simp [splice, Y.azl, c.len]
    rw [hsp]
    refine sEnd <| sSeq <| sReg rfl <| sQ (dMv rfl) rfl <| sQ (av := .agg (c.e p.1)) ?_ rfl <| sYield (avs := [.agg (c.e p.1)]) [2, 2, 2] rfl (rounds_of Y A p.1 hb1) rfl (.s rfl .nil) rfl fun av H' ⟨v', e1, e2⟩ => ?_
    · have := dLdBA (P := P) (n := 14) (ty := t10) (t := kt) (y := .tmp 3) (b := b3) (o := 0) (j := 0) (as := c.e p.1)
        (H := [.box b3 (c.e p.1), .it ek ev b r es (left.eraseIdx i) (some p), .box Bs [.sv v], .own kt c v ss, .obj l (.loop rec)])
        (fr := (10, .lit (.func (.yield l) #[] #[])) :: (3, .lit (.pointer (some ⟨b3, 0, none⟩))) :: (9, .lit (ek p.1)) :: (8, .tup [.lit (ek p.1), .lit (ev p.2)]) :: (7, Ab true) :: (6, .tup [Ab true, .lit (ek p.1), .lit (ev p.2)]) :: [(0, .lit (.func (.yield l) #[] #[])), (5, .lit (.pointer (some ⟨r, 0, none⟩)))])
        Y.gE Y.zE rfl rfl (by rw [c.len]; omega)
      rw [List.drop_zero, List.take_of_length_le (by rw [c.len]; exact Nat.le_refl _)] at this
      exact this
    · subst e1 e2
      refine sQ (dNot rfl) rfl <| sEnd <| sCondF rfl rfl <| sSkip <| sBlkEnd <| sPk [4, 0, 0, 0] rfl <| sWk [] (fr' := [(0, .lit (.func (.yield l) #[] #[])), (5, .lit (.pointer (some ⟨r, 0, none⟩)))]) ⟨rfl, rfl, trivial⟩ rfl <| again ⟨(left.eraseIdx i, some p, ss ++ [p.1], v'), ?_⟩ ?_
      · refine List.Perm.trans ?_ hp
        simp only [List.append_assoc, List.singleton_append]
        exact List.Perm.append_left ss ((perm_erase hi).map (fun y : κ × ν => y.1)).symm
      · simp only [List.length_eraseIdx, hil, if_true]; omega
end
end S
end Go.Proofs.Ytpjhcllohagjoaa
