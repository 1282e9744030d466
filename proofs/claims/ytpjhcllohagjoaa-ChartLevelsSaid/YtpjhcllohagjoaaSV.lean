/-
  Sim: slices.AppendSeq over maps.Keys of a map that the call owns. Own work; no claim stands here.
-/
import Derived.Test.YtpjhcllohagjoaaST
namespace Go.Proofs.Ytpjhcllohagjoaa
namespace S
open Go.RowKit
set_option linter.unusedVariables false
set_option linter.unusedSimpArgs false
set_option linter.unusedSectionVars false
set_option maxRecDepth 100000

/-- The value of maps.Keys(m): g: the iterator; b: the map's block. -/
def AV.keys (g b : Nat) : AV :=
  ⟨fun Z w u => ∃ p, u = .func (.func g) #[] #[p] ∧ (AV.fptr [.lit (.map (some b))]).p Z w p, fun hz hk ⟨p, e, h⟩ => ⟨p, e, AV.st _ hz hk h⟩⟩

theorem Inv.more {w0 w : World} {F0 Z0 F Z : Nat → Prop} {H : List Res} (hi : Inv w0 w F0 Z0 F Z H) {r : Res} (hr : r.h Z w (fun _ => False)) : Inv w0 w F0 Z0 F Z (r :: H) :=
  ⟨hi.base, hi.z0, hi.zin, hi.fin, ⟨fun _ => False, F, hr, hi.res, fun _ h => h.elim, fun _ h => h⟩⟩

theorem ne_pure {P : Program} {op : Op} {y : Operand} (h : op = .move y ∨ op = .assign y) (ρ : Operand → Value) (o : Oper) (w : World) (g : FuncId) (args : Array Value) (w' : World) (ho : o.op = op) : (execOp ρ o).run P w ≠ .ok (.enter g args) w' := by
  rcases h with rfl | rfl <;> simp [execOp, ho]

section
variable {P : Program} {κ ν : Type} {c : Co κ} {ek : κ → Value} {ev : ν → Value} {tM kt et tS : TypeId} {zs : List Value} {az : List AV} {z : Value} {bytes : Nat}

set_option maxHeartbeats 2000000 in
theorem appendSeq (Y : KeysTy P c ek ev tM kt et tS zs az z bytes) {b : Nat} {es : List (κ × ν)} {g : FuncId} (hg : Ent P g)
    (hit : ∀ {Bs l : Nat} {rec : Loop} {v : Value}, ApRec tS kt Bs rec → Spec P g [.lit (.func (.yield l) #[] #[]), .fptr [.lit (.map (some b))]] [.mp ek ev b es, .box Bs [.sv v], .own kt c v [], .obj l (.loop rec)]
      fun a H => ∃ v' ss, ss.Perm (es.map (·.1)) ∧ H = [.mp ek ev b es, .box Bs [.sv v'], .own kt c v' ss, .obj l (.loop rec)])
    {f : FuncId} {fn : Func} {i0 i1 i2 i3 i4 : Nat} {t1 t2 t3 t4 t5 t6 t7 t8 t9 t10 t11 t12 : TypeId} {p1 p2 p3 p4 p5 p6 p7 p8 p9 p10 p11 p12 : String} {a1 a2 a3 a4 a5 a6 a7 a8 a9 a10 a11 a12 : Array Edge}
    (hf : P.funcs[f]? = some fn) (hn : fn.ntmps = 13) (hr : fn.results = #[.tmp 4])
    (hb : fn.body = some (.seq (.region i0 #[⟨some 2, .box tS (.tmp 0), t1, p1, a1, none⟩, ⟨some 4, .assign (.const (.slice none 0 0)), t2, p2, a2, none⟩] false)
      (.seq (.seq (.region i1 #[⟨some 6, .move (.tmp 1), t3, p3, a3, none⟩] false)
        (.block 0 (.rangeFunc (.tmp 6) #[7] (.region i2 #[⟨some 5, .alloc kt, t4, p4, a4, none⟩, ⟨none, .store kt (.tmp 5) (.tmp 7), t5, p5, a5, none⟩] false)
          (.block 1 (.region i3 #[⟨some 8, .load tS (.tmp 2), t6, p6, a6, none⟩, ⟨some 9, .load kt (.tmp 5), t7, p7, a7, none⟩, ⟨some 10, .buildSlice tS 1 #[(0, .tmp 9)], t8, p8, a8, none⟩, ⟨some 11, .call ⟨.builtin .append, #[.tmp 8, .tmp 10], #[tS, tS]⟩, t9, p9, a9, none⟩, ⟨none, .store tS (.tmp 2) (.tmp 11), t10, p10, a10, none⟩] false)))))
        (.seq (.region i4 #[⟨some 12, .load tS (.tmp 2), t11, p11, a11, none⟩, ⟨some 4, .assign (.tmp 12), t12, p12, a12, none⟩] false) .ret)))) :
    Spec P f [.lit (.slice none 0 0), .keys g b] [.mp ek ev b es] fun a H => ∃ v ss, a = .sv v ∧ ss.Perm (es.map (·.1)) ∧ H = [.own kt c v ss, .mp ek ev b es] := by
  intro w F Z vs hvs hi
  cases hvs with
  | @cons _ v0 _ vs' hv0 hvs' =>
  cases hvs' with
  | @cons _ u _ vs'' hu hvs'' =>
  cases hvs''
  have hv0' : v0 = .slice none 0 0 := hv0
  subst hv0'
  refine callsIn_wide.1 (callsIn_of_wp_marks (n := 0) (F := Fence.wide) hf hb trivial ?_)
  have hall : AllP Z w [.sv (.slice none 0 0), .keys g b] [.slice none 0 0, u] := .cons ⟨rfl, _, _, _, rfl⟩ (.cons hu .nil)
  have hf0 : FrOk (frOf 0 [.sv (.slice none 0 0), .keys g b]) Z w (([.slice none 0 0, u] : List Value).toArray ++ Array.replicate (fn.ntmps - ([.slice none 0 0, u] : List Value).toArray.size) undef) := frOf_ok hall 0 _ fun j v hj => by
    match j, hj with
    | 0, hj => simp at hj; subst hj; rw [hn]; rfl
    | 1, hj => simp at hj; subst hj; rw [hn]; rfl
    | j + 2, hj => simp at hj
  rw [hn] at hf0 ⊢
  refine wpIn_seq (wpIn_region ?_)
  refine (show WL P Fence.wide 0 [] 13 _ _ w F Z [0, 1] _ _ from
    wV (fun _ => trivial) (d := 2) (I := Nat) (av := fun B => .lit (.pointer (some ⟨B, 0, none⟩))) (H' := fun B => [.box B [.sv (.slice none 0 0)], .mp ek ev b es]) (fun o ho hty w0 F0 Z0 w F Z ρ hi hf => ⟨.pointer (some ⟨w.heap.size, 0, none⟩), w.alloc (.cells (ρ (.tmp 0)).cells.toList.toArray tS), w.heap.size, _, Z, by simp only [execOp, ho, box_run, Sem.run_bind, Result.andThen_ok, Sem.run_pure], hi.push _ (.box w.heap.size [.sv (.slice none 0 0)]) ⟨rfl, _, tS, alloc_cells w _ tS, cOne oSv _ _ _ (AV.st _ (fun _ x => x) ((Step.alloc w _ _).keep' hi) (hf (by simp [Op.operands]) rfl))⟩, fun _ x => x, (Step.alloc w _ _).keep' hi, rfl⟩) rfl (fun c h => by cases h) (by omega) fun B =>
    wQ (fun _ => trivial) (d := 4) (dAs rfl) (ne_pure (.inr rfl)) rfl (fun c h => by cases h) (by omega) fun w1 F1 Z1 tm1 hn1 hi1 hf1 => ?_) w F Z _ (by simp) hi hf0
  refine wpIn_seq (wpIn_seq (wpIn_region ?_))
  refine (show WL P Fence.wide 0 [] 13 _ _ w F Z [0] _ _ from wQ (fun _ => trivial) (d := 6) (dMv rfl) (ne_pure (.inl rfl)) rfl (fun c h => by cases h) (by omega) fun w2 F2 Z2 tm2 hn2 hi2 hf2 => ?_) w1 F1 Z1 tm1 hn1 hi1 hf1
  refine wpIn_block (wpIn_rangeFunc ?_)
  intro fnn _
  have e6 : (AV.keys g b).p Z2 w2 (tm2.getD 6 undef) := hf2 6 _ rfl
  obtain ⟨p, hp, hfp⟩ := e6
  have e2 : tm2.getD 2 undef = .pointer (some ⟨B, 0, none⟩) := hf2 2 _ rfl
  have hi3 := (hi2.push (.deferred (some [])) (.obj w2.heap.size (.deferred (some []))) ⟨rfl, heap_alloc_new w2 _⟩)
  generalize hrec : ({ state := .ready, pending := none, fn := fnn, tmps := tm2, params := #[7], assign := .region i2 #[⟨some 5, .alloc kt, t4, p4, a4, none⟩, ⟨none, .store kt (.tmp 5) (.tmp 7), t5, p5, a5, none⟩] false, body := .block 1 (.region i3 #[⟨some 8, .load tS (.tmp 2), t6, p6, a6, none⟩, ⟨some 9, .load kt (.tmp 5), t7, p7, a7, none⟩, ⟨some 10, .buildSlice tS 1 #[(0, .tmp 9)], t8, p8, a8, none⟩, ⟨some 11, .call ⟨.builtin .append, #[.tmp 8, .tmp 10], #[tS, tS]⟩, t9, p9, a9, none⟩, ⟨none, .store tS (.tmp 2) (.tmp 11), t10, p10, a10, none⟩] false), defers := w2.heap.size } : Loop) = rec
  have hA : ApRec tS kt B rec := by
    subst hrec
    exact ⟨hn2, e2, rfl, rfl, rfl, ⟨_, _, _, _, _, _, _, rfl⟩, ⟨_, _, _, _, _, _, _, _, _, _, _, _, _, _, _, _, _, rfl⟩⟩
  have hi4 := (hi3.push (.loop rec) (.obj (w2.alloc (.deferred (some []))).heap.size (.loop rec)) ⟨rfl, heap_alloc_new _ _⟩).more (r := .own kt c (.slice none 0 0) []) (.inr ⟨rfl, none, rfl⟩)
  have hk4 : Keep Z2 w2 ((w2.alloc (.deferred (some []))).alloc (.loop rec)) := fun x hx => by
    have hlt := (hi2.zin x hx).1
    rw [Below.heap_alloc _ _ x (by simp; omega), Below.heap_alloc _ _ x hlt]
  obtain ⟨F5, hin, hback⟩ := hi4.lend (js := [4, 3, 0, 0]) (Hin := [.mp ek ev b es, .box B [.sv (.slice none 0 0)], .own kt c (.slice none 0 0) [], .obj (w2.alloc (.deferred (some []))).heap.size (.loop rec)]) rfl
  have hl1 : (w2.alloc (.deferred (some []))).heap.size = w2.heap.size + 1 := by simp
  rw [hl1] at hin hback
  refine ⟨w2.heap.size + 1, [{ target := .collected w2.heap.size, args := #[] }], (w2.alloc (.deferred (some []))).alloc (.loop rec), { target := .fn (.func g) #[p], args := #[.func (.yield (w2.heap.size + 1)) #[] #[]] }, (w2.alloc (.deferred (some []))).alloc (.loop rec), g, #[.func (.yield (w2.heap.size + 1)) #[] #[]] ++ #[p], (w2.alloc (.deferred (some []))).alloc (.loop rec), ?_, ?_, fun _ _ => trivial, ?_, fun h => by simp [Fence.wide] at h, ?_⟩
  · rw [← hrec]; exact run_enterLoop_outer _ _ _ _ _
  · have e6' : (⟨tm2, []⟩ : Act).eval (.tmp 6) = .func (.func g) #[] #[p] := hp
    have e7 : (⟨tm2, []⟩ : Act).eval (.const (.func (.yield (w2.heap.size + 1)) #[] #[])) = .func (.yield (w2.heap.size + 1)) #[] #[] := rfl
    simp only [resolve, rangeCall, e6', Deferred.ofValue, List.map_toArray, List.map_cons, List.map_nil, e7, Sem.run_pure]
    rfl
  · exact hg _ _
  · refine callsIn_wide.2 ((hit hA _ F5 Z2 [.func (.yield (w2.heap.size + 1)) #[] #[], p] (.cons rfl (.cons (AV.st _ (fun _ x => x) hk4 hfp) .nil)) hin).mono ?_)
    rintro e w5 ⟨vr, rfl, F6, Z6, av, H6, ⟨v', ss, hperm, rfl⟩, hinv, _⟩
    obtain ⟨F7, hi7, hk7⟩ := hback w5 F6 Z6 _ hinv
    have hi7' : Inv w w5 F Z F7 Z6 [.mp ek ev b es, .box B [.sv v'], .own kt c v' ss, .obj (w2.heap.size + 1) (.loop rec), .obj w2.heap.size (.deferred (some []))] := hi7
    obtain ⟨_, ⟨_, hL⟩, _⟩ := hi7'.res.at (j := 3) rfl
    have hst : rec.state ≠ .busy := by rw [hA.st]; decide
    obtain ⟨F8, hi8, hk8⟩ := hi7'.put (j := 3) (o' := .loop { rec with state := .exhausted }) rfl
    have hend := run_endLoop (P := P) hL hst
    generalize ({ rec with state := .exhausted } : Loop) = rx at hi8 hk8 hend
    rw [hA.pe] at hend
    refine ⟨none, _, hend, ?_⟩
    have hf8 : FrOk _ Z6 (w5.putObj (w2.heap.size + 1) (.loop rx)) tm2 := (((hf2.st (fun _ x => x) hk4).st hinv.z0 hk7).st (fun _ x => x) hk8)
    refine wpIn_seq (wpIn_region ?_)
    refine (show WL P Fence.wide 0 [{ target := .collected w2.heap.size, args := #[] }] 13 _ _ w F Z [0, 1] _ _ from
      wQ (fun _ => trivial) (d := 12) (dLdB (j := 1) (a := .sv v') Y.gS rfl rfl rfl) ne_load rfl (fun c h => by cases h) (by omega) <|
      wQ (fun _ => trivial) (d := 4) (dAs rfl) (ne_pure (.inr rfl)) rfl (fun c h => by cases h) (by omega) fun w9 F9 Z9 tm9 hn9 hi9 hf9 => ?_) _ F8 Z6 tm2 hn2 hi8 hf8
    refine wpIn_ret ?_
    obtain ⟨_, ⟨_, hK⟩, _⟩ := hi9.res.at (j := 4) rfl
    obtain ⟨F10, hi10, hk10⟩ := hi9.put (j := 4) (o' := .deferred none) rfl
    refine ⟨by simp, .inl ⟨_, _, rfl, run_takeDeferred hK, ?_⟩⟩
    obtain ⟨v1, e1, q1⟩ := rT (P := P) (H := []) (fr := (4, AV.sv v') :: (12, AV.sv v') :: _) (u := 4) rfl Z9 (fun _ => False) _ tm9 trivial (hf9.st (fun _ x => x) hk10)
    exact ⟨v1, results1 hr e1, v1, rfl, F10, Z9, .sv v', _, ⟨v', ss, rfl, hperm, rfl⟩, hi10.less (·.pickR [2, 0]), q1⟩
end
end S
end Go.Proofs.Ytpjhcllohagjoaa
