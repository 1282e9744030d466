/-
  Sim: slices of the call's own whose elements hold slices of the call's own (trees): opened at one place, written there, closed again. Own work; no claim stands here.
-/
import Derived.Test.YtpjhcllohagjoaaSN
namespace Go.Proofs.Ytpjhcllohagjoaa
namespace S
open Go.RowKit
set_option linter.unusedVariables false
set_option linter.unusedSimpArgs false

/-! ## What is owned, parted and joined -/
section
variable {H : List Res} {w0 w : World} {F0 Z0 F Z : Nat → Prop}
theorem Inv.part {j : Nat} {r : Res} {I : Type} {ra rb : I → Res} (hi : Inv w0 w F0 Z0 F Z H) (hj : H[j]? = some r)
    (hs : ∀ F1, r.h Z w F1 → ∃ i, ∃ G1 G2 : Nat → Prop, (ra i).h Z w G1 ∧ (rb i).h Z w G2 ∧ (∀ b, G1 b → F1 b ∧ ¬ G2 b) ∧ (∀ b, G2 b → F1 b)) : ∃ i, Inv w0 w F0 Z0 F Z (ra i :: rb i :: H.eraseIdx j) := by
  obtain ⟨F1, F2, h1, h2, d1, d2⟩ := hi.res.take hj
  obtain ⟨i, G1, G2, g1, g2, e1, e2⟩ := hs F1 h1
  refine ⟨i, hi.base, hi.z0, hi.zin, hi.fin, G1, fun b => G2 b ∨ F2 b, g1, ⟨G2, F2, g2, h2, fun b hb => ⟨.inl hb, (d1 b (e2 b hb)).2⟩, fun b hb => .inr hb⟩, fun b hb => ⟨(d1 b (e1 b hb).1).1, fun x => x.elim (e1 b hb).2 (d1 b (e1 b hb).1).2⟩, fun b hb => hb.elim (fun x => (d1 b (e2 b x)).1) (d2 b)⟩
theorem Inv.meet {j j2 : Nat} {ra rb r : Res} (hi : Inv w0 w F0 Z0 F Z H) (hj : H[j]? = some ra) (hj2 : (H.eraseIdx j)[j2]? = some rb)
    (hs : ∀ G1 G2 : Nat → Prop, (∀ b, G1 b → ¬ G2 b) → ra.h Z w G1 → rb.h Z w G2 → r.h Z w fun b => G1 b ∨ G2 b) : Inv w0 w F0 Z0 F Z (r :: (H.eraseIdx j).eraseIdx j2) := by
  obtain ⟨F1, F2, h1, h2, d1, d2⟩ := hi.res.take hj
  obtain ⟨G1, G2, g1, g2, e1, e2⟩ := h2.take hj2
  refine ⟨hi.base, hi.z0, hi.zin, hi.fin, fun b => F1 b ∨ G1 b, G2, hs F1 G1 (fun b hb x => (d1 b hb).2 (e1 b x).1) h1 g1, g2, fun b hb => ?_, fun b hb => d2 b (e2 b hb)⟩
  rcases hb with hb | hb
  · exact ⟨(d1 b hb).1, fun x => (d1 b hb).2 (e2 b x)⟩
  · exact ⟨d2 b (e1 b hb).1, (e1 b hb).2⟩
end

section
variable {P : Program} {f : FuncId} {n : Nat} {ops : Array Oper} {l : List Oper} {k : List Item} {fr : Fr} {H : List Res} {ρ R : Type} {x : Option ρ} {X : ρ → Option R} {K : R → AV → List Res → Prop} {ty t t' e t0 : TypeId} {d : Nat} {pos : String} {aft : Array Edge}

theorem sPart {todo : List Item} (j : Nat) {r : Res} {I : Type} {ra rb : I → Res} (hj : H[j]? = some r)
    (hs : ∀ Z w F1, r.h Z w F1 → ∃ i, ∃ G1 G2 : Nat → Prop, (ra i).h Z w G1 ∧ (rb i).h Z w G2 ∧ (∀ b, G1 b → F1 b ∧ ¬ G2 b) ∧ (∀ b, G2 b → F1 b)) (h : ∀ i, Sim P f n todo fr (ra i :: rb i :: H.eraseIdx j) x X K) : Sim P f n todo fr H x X K := by
  intro r hr w0 F0 Z0 w F Z tmps hn hi hf
  obtain ⟨i, hi'⟩ := hi.part hj (hs Z w)
  exact h i r hr w0 F0 Z0 w F Z tmps hn hi' hf
theorem sMeet {todo : List Item} (j j2 : Nat) {ra rb r : Res} (hj : H[j]? = some ra) (hj2 : (H.eraseIdx j)[j2]? = some rb)
    (hs : ∀ Z w, ∀ G1 G2 : Nat → Prop, (∀ b, G1 b → ¬ G2 b) → ra.h Z w G1 → rb.h Z w G2 → r.h Z w fun b => G1 b ∨ G2 b) (h : Sim P f n todo fr (r :: (H.eraseIdx j).eraseIdx j2) x X K) : Sim P f n todo fr H x X K := by
  intro q hq w0 F0 Z0 w F Z tmps hn hi hf
  exact h q hq w0 F0 Z0 w F Z tmps hn (hi.meet hj hj2 (hs Z w)) hf
/-- What is owned is told otherwise. -/
theorem sTurn {todo : List Item} (j : Nat) {r r' : Res} (hj : H[j]? = some r) (hs : ∀ Z w F1, r.h Z w F1 → r'.h Z w F1) (h : Sim P f n todo fr (H.set j r') x X K) : Sim P f n todo fr H x X K := by
  intro q hq w0 F0 Z0 w F Z tmps hn hi hf
  obtain ⟨F', hi', _⟩ := hi.turn (w' := w) (r' := r') hj fun G1 h1 _ => ⟨G1, Step.refl _ _, hs _ _ _ h1, fun _ x => .inl x⟩
  exact h q hq w0 F0 Z0 w F' Z tmps hn hi' hf
/-- What is owned is not written any more. -/
theorem sFzG {T : Type} {c : Co T} {todo : List Item} (j : Nat) {r : Res} {v : Value} {xs : List T} (hj : H[j]? = some r) (hr : ∀ {Z w F1}, r.h Z w F1 → (AV.fsl c xs).p (fun b => Z b ∨ F1 b) w v) (h : Sim P f n todo fr (H.set j (.fz c v xs)) x X K) : Sim P f n todo fr H x X K := by
  intro q hq w0 F0 Z0 w F Z tmps hn hi hf
  obtain ⟨F1, h1, hF, hset⟩ := HAll.give (r' := .fz c v xs) hj hi.res
  have hzz : ∀ b, Z b → Z b ∨ F1 b := fun _ x => .inl x
  refine h q hq w0 F0 Z0 w (fun b => F b ∧ ¬ F1 b) (fun b => Z b ∨ F1 b) tmps hn ?_ (hf.st hzz (Keep.refl _ _))
  exact hi.step (F1 := fun _ => False) (Step.refl _ _) (fun _ x => x.elim) hzz (fun b x => x.imp id fun y => .inl (hF b y)) (fun b hb => ⟨.inl hb.1, fun x => x.elim (hi.fin b hb.1).2.2 hb.2⟩) (hset _ hzz (hr h1))
end

/-! ## Trees -/

/-- How a type's values are told whose one slice is owned: c: with that slice's value; q: as memory that is read alone; ch: what is owned below. -/
structure Tr (T : Type) where
  t : TypeId
  c : Co (T × Value)
  q : Co T
  ch : T → Value → Res
  sz : q.sz = c.sz
  fz : ∀ {x : T} {u : Value} {Z F : Nat → Prop} {w : World} {vs : List Value}, (ch x u).h Z w F → AllP Z w (c.e (x, u)) vs → AllP (fun b => Z b ∨ F b) w (q.e x) vs

/-- What is owned below, but at o. -/
def Res.kids {T : Type} (ch : T → Value → Res) (xs : List T) (us : List Value) (o : Option Nat) : Res :=
  ⟨fun Z w F => ∃ Fs : Nat → Nat → Prop, (∀ k x u, xs[k]? = some x → us[k]? = some u → o ≠ some k → (ch x u).h Z w (Fs k)) ∧ (∀ k b, Fs k b → F b) ∧ ∀ k k' b, Fs k b → Fs k' b → k = k',
   fun hz hk ⟨Fs, h1, h2, h3⟩ => ⟨Fs, fun k x u hx hu ho => (ch x u).st hz (fun b hb => hk b (hb.imp id (h2 k b))) (h1 k x u hx hu ho), h2, h3⟩⟩
def holed (o : Option (Int × Value)) : Option Nat := o.map fun p => p.1.toNat
/-- A tree of the call's own; o: where it is opened, and the slice's value there. -/
def Res.tro {T : Type} (D : Tr T) (v : Value) (xs : List T) (o : Option (Int × Value)) : Res :=
  ⟨fun Z w F => ∃ us : List Value, ∃ F1 F2 : Nat → Prop, us.length = xs.length ∧ (∀ (i : Int) (u : Value), o = some (i, u) → us[i.toNat]? = some u) ∧ (Res.own D.t D.c v (xs.zip us)).h Z w F1 ∧ (Res.kids D.ch xs us (holed o)).h Z w F2 ∧ (∀ b, F1 b → F b ∧ ¬ F2 b) ∧ ∀ b, F2 b → F b,
   fun hz hk ⟨us, F1, F2, h1, h2, h3, h4, d1, d2⟩ => ⟨us, F1, F2, h1, h2, Res.st _ hz (fun b hb => hk b (hb.imp id fun x => (d1 b x).1)) h3, Res.st _ hz (fun b hb => hk b (hb.imp id (d2 b))) h4, d1, d2⟩⟩

theorem rd_zip {T : Type} [Inhabited T] {xs : List T} {us : List Value} {i : Int} {u : Value} (hl : us.length = xs.length) (hu : us[i.toNat]? = some u) (h0 : 0 ≤ i) (h1 : i < xs.length) : rd (xs.zip us) i = (rd xs i, u) := by
  have h2 : i.toNat < xs.length := by omega
  have h3 : us[i.toNat]'(by omega) = u := by rw [List.getElem?_eq_getElem (by omega)] at hu; exact Option.some.inj hu
  simp [rd, List.getD_eq_getElem?_getD, h2, h3, hl]
theorem zip_len {T : Type} {xs : List T} {us : List Value} (hl : us.length = xs.length) : (xs.zip us).length = xs.length := by simp [hl]
theorem at_some {T : Type} {xs : List T} {us : List Value} {i : Int} (hl : us.length = xs.length) (h0 : 0 ≤ i) (h1 : i < xs.length) : ∃ u, us[i.toNat]? = some u := ⟨us[i.toNat]'(by omega), List.getElem?_eq_getElem (by omega)⟩
theorem zip_set_l {T : Type} {u : Value} : ∀ {xs : List T} {us : List Value} {i : Nat} {x' : T}, us[i]? = some u → (xs.zip us).set i (x', u) = (xs.set i x').zip us
  | [], us, i, x', h => by simp
  | x :: xs, [], i, x', h => by simp at h
  | x :: xs, v :: us, 0, x', h => by simp at h; simp [h]
  | x :: xs, v :: us, i + 1, x', h => by simp at h; simp [zip_set_l h]
theorem zip_set_r {T : Type} {x : T} : ∀ {xs : List T} {us : List Value} {i : Nat} {u' : Value}, xs[i]? = some x → (xs.zip us).set i (x, u') = xs.zip (us.set i u')
  | [], us, i, u', h => by simp
  | y :: xs, [], i, u', h => by simp
  | y :: xs, v :: us, 0, u', h => by simp at h; simp [h]
  | y :: xs, v :: us, i + 1, u', h => by simp at h; simp [zip_set_r h]

/-- Elements that are written out alike. -/
theorem own_congr {T : Type} {t : TypeId} {c : Co T} {v : Value} {xs ys : List T} {Z F : Nat → Prop} {w : World} (h : (Res.own t c v xs).h Z w F) (hl : ys.length = xs.length) (hc : ∀ (k : Nat) (x y : T), xs[k]? = some x → ys[k]? = some y → c.e y = c.e x) : (Res.own t c v ys).h Z w F := by
  rcases h with ⟨cs, h1, h2, h3⟩ | ⟨rfl, A, rfl⟩
  · refine .inl ⟨cs, hl ▸ h1, h2, fun k y hy => ?_⟩
    have hk : k < xs.length := by
      rcases Nat.lt_or_ge k ys.length with h | h
      · omega
      · simp [h] at hy
    obtain ⟨vs, g1, g2⟩ := h3 k xs[k] (List.getElem?_eq_getElem hk)
    exact ⟨vs, by rw [hc k _ y (List.getElem?_eq_getElem hk) hy]; exact g1, g2⟩
  · exact .inr ⟨List.length_eq_zero_iff.1 (by simpa using hl), A, rfl⟩

/-- A closed tree is memory that may be read alone. -/
theorem tro_fsl {T : Type} {D : Tr T} {v : Value} {xs : List T} {Z F : Nat → Prop} {w : World} (h : (Res.tro D v xs none).h Z w F) : (AV.fsl D.q xs).p (fun b => Z b ∨ F b) w v := by
  obtain ⟨us, F1, F2, hl, _, h3, ⟨Fs, k1, k2, k3⟩, d1, d2⟩ := h
  obtain ⟨A, m, e1, hc, hel⟩ := own_fsl h3
  rw [zip_len hl] at e1 hc
  refine ⟨A, m, e1, hc, fun i x hx => ?_⟩
  have hi : i < xs.length := by
    rcases Nat.lt_or_ge i xs.length with h | h
    · exact h
    · simp [h] at hx
  have hu : us[i]? = some (us[i]'(by omega)) := List.getElem?_eq_getElem (by omega)
  obtain ⟨a, ea, hb, vs, g1, g2⟩ := hel i (x, us[i]'(by omega)) (by simp [List.getElem?_zip_eq_some, hx, hu])
  refine ⟨a, ea, hb.imp id fun y => (d1 _ y).1, vs, ?_, by rw [D.sz]; exact g2⟩
  have hk := (D.ch x (us[i]'(by omega))).st (Z' := fun b => Z b ∨ F1 b) (fun _ y => .inl y) (fun _ _ => rfl) (k1 i x _ hx hu (by simp [holed]))
  exact (D.fz hk g1).st (fun b hb => by rcases hb with (y | y) | y; exact .inl y; exact .inr (d1 b y).1; exact .inr (d2 b (k2 i b y))) (fun _ _ => rfl)
theorem tro_sv {T : Type} {D : Tr T} {v : Value} {xs : List T} {o : Option (Int × Value)} {Z F : Nat → Prop} {w : World} (h : (Res.tro D v xs o).h Z w F) : ∃ A m, v = .slice A xs.length m := by
  obtain ⟨us, F1, F2, hl, _, h3, _⟩ := h
  obtain ⟨A, m, e⟩ := own_sv h3
  exact ⟨A, m, by rw [zip_len hl] at e; exact e⟩

section
variable {P : Program} {f : FuncId} {n : Nat} {ops : Array Oper} {l : List Oper} {k : List Item} {fr : Fr} {H : List Res} {ρ R : Type} {x : Option ρ} {X : ρ → Option R} {K : R → AV → List Res → Prop} {ty t t' e t0 : TypeId} {d : Nat} {pos : String} {aft : Array Edge}
variable {T : Type} {D : Tr T} {v : Value} {xs : List T} {j : Nat} {o : Option (Int × Value)}

/-- A tree in two parts. -/
theorem tro_part {Z F1 : Nat → Prop} {w : World} (h : (Res.tro D v xs o).h Z w F1) : ∃ i : { us : List Value // us.length = xs.length ∧ ∀ i u, o = some (i, u) → us[i.toNat]? = some u }, ∃ G1 G2 : Nat → Prop, (Res.own D.t D.c v (xs.zip i.1)).h Z w G1 ∧ (Res.kids D.ch xs i.1 (holed o)).h Z w G2 ∧ (∀ b, G1 b → F1 b ∧ ¬ G2 b) ∧ (∀ b, G2 b → F1 b) := by
  obtain ⟨us, G1, G2, hl, ho, h3, h4, d1, d2⟩ := h
  exact ⟨⟨us, hl, ho⟩, G1, G2, h3, h4, d1, d2⟩
theorem dTro {op : Op} {av : AV} (hj : H[j]? = some (.tro D v xs o)) (h : ∀ us : List Value, us.length = xs.length → (∀ i u, o = some (i, u) → us[i.toNat]? = some u) → S.D P n (.own D.t D.c v (xs.zip us) :: .kids D.ch xs us (holed o) :: H.eraseIdx j) op ty fr av) : S.D P n H op ty fr av := by
  intro q ho hty w0 F0 Z0 w F Z tmps hn hi hf
  obtain ⟨us, hi'⟩ := hi.part (ra := fun i : { us : List Value // us.length = xs.length ∧ ∀ i u, o = some (i, u) → us[i.toNat]? = some u } => .own D.t D.c v (xs.zip i.1)) (rb := fun i => .kids D.ch xs i.1 (holed o)) hj fun F1 h1 => tro_part h1
  exact h us.1 us.2.1 us.2.2 q ho hty w0 F0 Z0 w F Z tmps hn hi' hf

theorem dLenT {y : Operand} (ht : P.underlying t = some (.slice e)) (hy : arg fr y = some (.sv v)) (hj : H[j]? = some (.tro D v xs o)) : S.D P n H (.call ⟨.builtin .len, #[y], #[t]⟩) ty fr (Ai .i64 xs.length) :=
  dTro hj fun us hl _ => by
    have := dLenO (P := P) (n := n) (ty := ty) (j := 0) (H := .own D.t D.c v (xs.zip us) :: .kids D.ch xs us (holed o) :: H.eraseIdx j) ht hy rfl
    rw [zip_len hl] at this; exact this
theorem dIxT {y z : Operand} {kd : IntKind} {i : Int} (ht : P.underlying t = some (.slice e)) (hsz : SizeIs P e D.c.sz) (hy : arg fr y = some (.sv v)) (hj : H[j]? = some (.tro D v xs o)) (hz : arg fr z = some (Ai kd i)) (h0 : 0 ≤ i) (h1 : i < xs.length) : S.D P n H (.indexAddr t y z) ty fr (.ep v (i.toNat * D.c.sz)) :=
  dTro hj fun us hl _ => dIxO (j := 0) ht hsz hy rfl hz h0 (by rw [zip_len hl]; exact h1)
theorem dLdT [Inhabited T] {y : Operand} {m off : Nat} {a : AV} (i : Int) (hg : IsAgg P t false) (hy : arg fr y = some (.ep v m)) (hj : H[j]? = some (.tro D v xs o)) (hm : m = i.toNat * D.c.sz + off) (h0 : 0 ≤ i) (h1 : i < xs.length) (ha : ∀ u, (D.c.e (rd xs i, u))[off]? = some a) : S.D P n H (.load t y) ty fr a :=
  dTro hj fun us hl _ => by
    obtain ⟨u, hu⟩ := at_some hl h0 h1
    exact dLdO (j := 0) i hg hy rfl hm h0 (by rw [zip_len hl]; exact h1) (by rw [rd_zip hl hu h0 h1]; exact ha u)
theorem dLdTh [Inhabited T] {y : Operand} {m off : Nat} {a : AV} {i : Int} {u : Value} (hg : IsAgg P t false) (hy : arg fr y = some (.ep v m)) (hj : H[j]? = some (.tro D v xs (some (i, u)))) (hm : m = i.toNat * D.c.sz + off) (h0 : 0 ≤ i) (h1 : i < xs.length) (ha : (D.c.e (rd xs i, u))[off]? = some a) : S.D P n H (.load t y) ty fr a :=
  dTro hj fun us hl ho => dLdO (j := 0) i hg hy rfl hm h0 (by rw [zip_len hl]; exact h1) (by rw [rd_zip hl (ho i u rfl) h0 h1]; exact ha)
theorem dLdThA [Inhabited T] {y : Operand} {m off q : Nat} {i : Int} {u : Value} (hg : IsAgg P t true) (hs : SizeIs P t q) (hy : arg fr y = some (.ep v m)) (hj : H[j]? = some (.tro D v xs (some (i, u)))) (hm : m = i.toNat * D.c.sz + off) (h0 : 0 ≤ i) (h1 : i < xs.length) (hq : off + q ≤ D.c.sz) : S.D P n H (.load t y) ty fr (.agg (((D.c.e (rd xs i, u)).drop off).take q)) :=
  dTro hj fun us hl ho => by
    have := dLdOA (P := P) (n := n) (ty := ty) (j := 0) (c := D.c) (H := .own D.t D.c v (xs.zip us) :: .kids D.ch xs us (holed (some (i, u))) :: H.eraseIdx j) i hg hs hy rfl hm h0 (by rw [zip_len hl]; exact h1) hq
    rw [rd_zip hl (ho i u rfl) h0 h1] at this; exact this

theorem sPartT {todo : List Item} (j : Nat) (hj : H[j]? = some (.tro D v xs o)) (h : ∀ us : List Value, us.length = xs.length → (∀ i u, o = some (i, u) → us[i.toNat]? = some u) → Sim P f n todo fr (.own D.t D.c v (xs.zip us) :: .kids D.ch xs us (holed o) :: H.eraseIdx j) x X K) : Sim P f n todo fr H x X K :=
  sPart j hj (I := { us : List Value // us.length = xs.length ∧ ∀ i u, o = some (i, u) → us[i.toNat]? = some u }) (ra := fun i => .own D.t D.c v (xs.zip i.1)) (rb := fun i => .kids D.ch xs i.1 (holed o)) (fun _ _ _ h => tro_part h) fun i => h i.1 i.2.1 i.2.2
theorem sMeetT {todo : List Item} {us : List Value} {H' : List Res} (hl : us.length = xs.length) (ho : ∀ i u, o = some (i, u) → us[i.toNat]? = some u) (h : Sim P f n todo fr (.tro D v xs o :: H') x X K) : Sim P f n todo fr (.own D.t D.c v (xs.zip us) :: .kids D.ch xs us (holed o) :: H') x X K :=
  sMeet (r := .tro D v xs o) 0 0 rfl rfl (fun Z w G1 G2 hd h1 h2 => ⟨us, G1, G2, hl, ho, h1, h2, fun b hb => ⟨.inl hb, hd b hb⟩, fun b hb => .inr hb⟩) h

theorem kids_set {ch : T → Value → Res} {us : List Value} {i : Nat} {x' y : T} {u : Value} {p : Option Nat} {Z F : Nat → Prop} {w : World} (h : (Res.kids ch xs us p).h Z w F) (hy : xs[i]? = some y) (hu : us[i]? = some u) (hc : ch x' u = ch y u) : (Res.kids ch (xs.set i x') us p).h Z w F := by
  obtain ⟨Fs, h1, h2, h3⟩ := h
  refine ⟨Fs, fun k x u' hx hu' ho => ?_, h2, h3⟩
  rw [List.getElem?_set] at hx
  by_cases e : i = k
  · subst e
    rw [if_pos rfl] at hx
    split at hx
    · cases hx; rw [hu] at hu'; cases hu'; rw [hc]; exact h1 i y u hy hu ho
    · cases hx
  · rw [if_neg e] at hx; exact h1 k x u' hx hu' ho
theorem kids_hole {ch : T → Value → Res} {us : List Value} {i : Nat} {x' : T} {u' : Value} {Z F : Nat → Prop} {w : World} (h : (Res.kids ch xs us (some i)).h Z w F) : (Res.kids ch (xs.set i x') (us.set i u') (some i)).h Z w F := by
  obtain ⟨Fs, h1, h2, h3⟩ := h
  refine ⟨Fs, fun k x u hx hu ho => ?_, h2, h3⟩
  have e : ¬ i = k := fun e => ho (by rw [e])
  rw [List.getElem?_set, if_neg e] at hx hu
  exact h1 k x u hx hu ho

/-- A cell beside the slice is written. -/
theorem sStT [Inhabited T] {y u : Operand} {m off q : Nat} {bs : List AV} {a : AV} (i : Int) (x' : T) (hs : SizeIs P t q) (hy : arg fr y = some (.ep v m)) (hj : H[j]? = some (.tro D v xs o)) (hm : m = i.toNat * D.c.sz + off) (h0 : 0 ≤ i) (h1 : i < xs.length) (hu : arg fr u = some a) (hc : CellsOf a bs) (ho1 : OneL bs) (hq : bs.length = q) (hql : off + q ≤ D.c.sz)
    (hx' : ∀ u, D.c.e (x', u) = splice (D.c.e (rd xs i, u)) off bs) (hch : ∀ u, D.ch x' u = D.ch (rd xs i) u) (h : SimL P f n ops l k fr (.tro D v (xs.set i.toNat x') o :: H.eraseIdx j) x X K) : SimL P f n ops (⟨none, .store t y u, ty, pos, aft, none⟩ :: l) k fr H x X K := by
  intro is hi
  refine sPartT j hj fun us hl ho => ?_
  obtain ⟨u', hu'⟩ := at_some hl h0 h1
  refine sStO (j := 0) i (x', u') hs hy rfl hm h0 (by rw [zip_len hl]; exact h1) hu hc ho1 hq hql (by rw [rd_zip hl hu' h0 h1]; exact hx' u') (fun is2 hi2 => ?_) is hi
  simp only [List.set_cons_zero]
  rw [zip_set_l hu']
  refine sTurn 1 (r' := .kids D.ch (xs.set i.toNat x') us (holed o)) rfl (fun Z w F1 hk => kids_set hk (rd_get h0 h1) hu' (hch u')) ?_
  exact sMeetT (by rw [List.length_set]; exact hl) ho (h is2 hi2)
/-- The slice's cell is written, where the tree is opened. -/
theorem sStTh [Inhabited T] {y u : Operand} {m off q : Nat} {bs : List AV} {a : AV} {i : Int} {u0 : Value} (u' : Value) (hs : SizeIs P t q) (hy : arg fr y = some (.ep v m)) (hj : H[j]? = some (.tro D v xs (some (i, u0)))) (hm : m = i.toNat * D.c.sz + off) (h0 : 0 ≤ i) (h1 : i < xs.length) (hu : arg fr u = some a) (hc : CellsOf a bs) (ho1 : OneL bs) (hq : bs.length = q) (hql : off + q ≤ D.c.sz)
    (hx' : D.c.e (rd xs i, u') = splice (D.c.e (rd xs i, u0)) off bs) (h : SimL P f n ops l k fr (.tro D v xs (some (i, u')) :: H.eraseIdx j) x X K) : SimL P f n ops (⟨none, .store t y u, ty, pos, aft, none⟩ :: l) k fr H x X K := by
  intro is hi
  refine sPartT j hj fun us hl ho => ?_
  have hu0 := ho i u0 rfl
  refine sStO (j := 0) i (rd xs i, u') hs hy rfl hm h0 (by rw [zip_len hl]; exact h1) hu hc ho1 hq hql (by rw [rd_zip hl hu0 h0 h1]; exact hx') (fun is2 hi2 => ?_) is hi
  simp only [List.set_cons_zero]
  rw [zip_set_r (rd_get h0 h1)]
  have e : xs.set i.toNat (rd xs i) = xs := by
    have h2 := rd_get h0 h1
    apply List.ext_getElem?
    intro k
    rw [List.getElem?_set]
    by_cases e : i.toNat = k
    · subst e; rw [if_pos rfl, if_pos (by omega), h2]
    · rw [if_neg e]
  refine sTurn 1 (r' := .kids D.ch xs (us.set i.toNat u') (holed (some (i, u')))) rfl (fun Z w F1 hk => by have := kids_hole (i := i.toNat) (x' := rd xs i) (u' := u') hk; rwa [e] at this) ?_
  exact sMeetT (by rw [List.length_set]; exact hl) (fun i' u2 he => by cases he; rw [List.getElem?_set_self (by omega)]) (h is2 hi2)

/-- A tree is opened at a place: what is owned below it there stands by itself. -/
theorem sOpenT [Inhabited T] {todo : List Item} (j : Nat) (i : Int) (hj : H[j]? = some (.tro D v xs none)) (h0 : 0 ≤ i) (h1 : i < xs.length) (h : ∀ u, Sim P f n todo fr (.tro D v xs (some (i, u)) :: D.ch (rd xs i) u :: H.eraseIdx j) x X K) : Sim P f n todo fr H x X K := by
  refine sPart j hj (I := Value) (ra := fun u => .tro D v xs (some (i, u))) (rb := fun u => D.ch (rd xs i) u) (fun Z w F1 hr => ?_) h
  obtain ⟨us, G1, G2, hl, _, h3, ⟨Fs, k1, k2, k3⟩, d1, d2⟩ := hr
  obtain ⟨u, hu⟩ := at_some hl h0 h1
  refine ⟨u, fun b => G1 b ∨ (G2 b ∧ ¬ Fs i.toNat b), Fs i.toNat, ⟨us, G1, fun b => G2 b ∧ ¬ Fs i.toNat b, hl, (fun i' u' e => by cases e; exact hu), h3, ⟨fun k b => k ≠ i.toNat ∧ Fs k b, fun k x u2 hx hu2 ho => ?_, fun k b hb => ⟨k2 k b hb.2, fun y => hb.1 (k3 k _ b hb.2 y)⟩, fun k k' b hb hb' => k3 k k' b hb.2 hb'.2⟩, fun b hb => ⟨.inl hb, fun y => (d1 b hb).2 y.1⟩, fun b hb => .inr hb⟩, k1 _ _ _ (rd_get h0 h1) hu (by simp [holed]), fun b hb => ?_, fun b hb => d2 b (k2 _ b hb)⟩
  · have e : k ≠ i.toNat := fun e => ho (by simp [holed, e])
    exact (D.ch x u2).st (fun _ y => y) (fun _ _ => rfl) (by
      have := k1 k x u2 hx hu2 (by simp [holed])
      have e2 : (fun b => k ≠ i.toNat ∧ Fs k b) = Fs k := by funext b; simp [e]
      show (D.ch x u2).h Z w (fun b => k ≠ i.toNat ∧ Fs k b)
      rw [e2]; exact this)
  · rcases hb with hb | hb
    · exact ⟨(d1 b hb).1, fun y => (d1 b hb).2 (k2 _ b y)⟩
    · exact ⟨d2 b hb.1, hb.2⟩
/-- And closed again, with what stands below it now. -/
theorem sCloseT [Inhabited T] {todo : List Item} {i : Int} {u : Value} {r2 : Res} (j j2 : Nat) (x' : T) (hj : H[j]? = some (.tro D v xs (some (i, u)))) (hj2 : (H.eraseIdx j)[j2]? = some r2) (h0 : 0 ≤ i) (h1 : i < xs.length) (hch : D.ch x' u = r2) (hx' : D.c.e (x', u) = D.c.e (rd xs i, u)) (h : Sim P f n todo fr (.tro D v (xs.set i.toNat x') none :: (H.eraseIdx j).eraseIdx j2) x X K) : Sim P f n todo fr H x X K := by
  refine sMeet j j2 hj hj2 (fun Z w G1 G2 hd hr h2 => ?_) h
  subst hch
  obtain ⟨us, E1, E2, hl, ho, h3, ⟨Fs, k1, k2, k3⟩, d1, d2⟩ := hr
  have hu := ho i u rfl
  have hil : i.toNat < xs.length := by omega
  refine ⟨us, E1, fun b => E2 b ∨ G2 b, (by rw [List.length_set]; exact hl), (fun i' u' e => by cases e), own_congr h3 (by simp [hl]) (fun k z z' hz hz' => ?_), ⟨fun k b => (k ≠ i.toNat ∧ Fs k b) ∨ (k = i.toNat ∧ G2 b), fun k z u2 hz hu2 _ => ?_, fun k b hb => hb.elim (fun y => .inl (k2 k b y.2)) (fun y => .inr y.2), fun k k' b hb hb' => ?_⟩, fun b hb => ⟨.inl (d1 b hb).1, fun y => y.elim (d1 b hb).2 (hd b (d1 b hb).1)⟩, fun b hb => hb.elim (fun y => .inl (d2 b y)) .inr⟩
  · by_cases e : k = i.toNat
    · subst e
      simp only [List.getElem?_zip_eq_some, rd_get h0 h1, hu, Option.some.injEq, List.getElem?_set_self hil] at hz hz'
      rw [show z = (rd xs i, u) from Prod.ext hz.1.symm hz.2.symm, show z' = (x', u) from Prod.ext hz'.1.symm hz'.2.symm]; exact hx'
    · simp only [List.getElem?_zip_eq_some, List.getElem?_set, if_neg (Ne.symm e)] at hz hz'
      have q1 : z = z' := Prod.ext (Option.some.inj (hz.1.symm.trans hz'.1)) (Option.some.inj (hz.2.symm.trans hz'.2))
      rw [q1]
  · by_cases e : k = i.toNat
    · subst e
      rw [List.getElem?_set_self hil] at hz; cases hz; rw [hu] at hu2; cases hu2
      have e2 : (fun b => (i.toNat ≠ i.toNat ∧ Fs i.toNat b) ∨ (i.toNat = i.toNat ∧ G2 b)) = G2 := by funext b; simp
      show (D.ch x' u).h Z w (fun b => (i.toNat ≠ i.toNat ∧ Fs i.toNat b) ∨ (i.toNat = i.toNat ∧ G2 b))
      rw [e2]; exact h2
    · rw [List.getElem?_set, if_neg (Ne.symm e)] at hz
      have e2 : (fun b => (k ≠ i.toNat ∧ Fs k b) ∨ (k = i.toNat ∧ G2 b)) = Fs k := by funext b; simp [e]
      show (D.ch z u2).h Z w (fun b => (k ≠ i.toNat ∧ Fs k b) ∨ (k = i.toNat ∧ G2 b))
      rw [e2]; exact k1 k z u2 hz hu2 (by simp [holed, Ne.symm e])
  · rcases hb with ⟨a1, a2⟩ | ⟨a1, a2⟩ <;> rcases hb' with ⟨b1, b2⟩ | ⟨b1, b2⟩
    · exact k3 k k' b a2 b2
    · exact (hd b (d2 b (k2 k b a2)) b2).elim
    · exact (hd b (d2 b (k2 k' b b2)) a2).elim
    · rw [a1, b1]
/-- Closed again as it was. -/
theorem sCloseT0 [Inhabited T] {todo : List Item} {i : Int} {u : Value} {r2 : Res} (j j2 : Nat) (hj : H[j]? = some (.tro D v xs (some (i, u)))) (hj2 : (H.eraseIdx j)[j2]? = some r2) (h0 : 0 ≤ i) (h1 : i < xs.length) (hch : D.ch (rd xs i) u = r2) (h : Sim P f n todo fr (.tro D v xs none :: (H.eraseIdx j).eraseIdx j2) x X K) : Sim P f n todo fr H x X K := by
  have e : xs.set i.toNat (rd xs i) = xs := by
    have h2 := rd_get h0 h1
    apply List.ext_getElem?
    intro k
    rw [List.getElem?_set]
    by_cases e : i.toNat = k
    · subst e; rw [if_pos rfl, if_pos (by omega), h2]
    · rw [if_neg e]
  exact sCloseT j j2 (rd xs i) hj hj2 h0 h1 hch rfl (by rw [e]; exact h)

theorem sFzT {todo : List Item} (j : Nat) (hj : H[j]? = some (.tro D v xs none)) (h : Sim P f n todo fr (H.set j (.fz D.q v xs)) x X K) : Sim P f n todo fr H x X K := sFzG j hj tro_fsl h
theorem sFzTL (j : Nat) (hj : H[j]? = some (.tro D v xs none)) (h : SimL P f n ops l k fr (H.set j (.fz D.q v xs)) x X K) : SimL P f n ops l k fr H x X K := fun is hs => sFzT j hj (h is hs)

/-! ### Trees are made -/
theorem zip_fs {T : Type} : ∀ zs : List (T × Value), (zs.map Prod.fst).zip (zs.map Prod.snd) = zs
  | [] => rfl
  | z :: zs => by simp [zip_fs zs]
/-- What is owned below a row's elements. -/
def Res.kl (D : Tr T) (zs : List (T × Value)) : Res := .kids D.ch (zs.map Prod.fst) (zs.map Prod.snd) none
theorem sKl0 {todo : List Item} (D : Tr T) (h : Sim P f n todo fr (.kl D [] :: H) x X K) : Sim P f n todo fr H x X K := by
  intro q hq w0 F0 Z0 w F Z tmps hn hi hf
  exact h q hq w0 F0 Z0 w F Z tmps hn ⟨hi.base, hi.z0, hi.zin, hi.fin, fun _ => False, F, ⟨fun _ _ => False, fun k x u hx => by simp at hx, fun _ _ x => x, fun _ _ _ x => x.elim⟩, hi.res, fun _ x => x.elim, fun _ x => x⟩ hf
theorem sKl1 {todo : List Item} {zs : List (T × Value)} {y : T} {u : Value} {r2 : Res} (j : Nat) (D : Tr T) (hj0 : H[0]? = some (.kl D zs)) (hj : (H.eraseIdx 0)[j]? = some r2) (hch : D.ch y u = r2) (h : Sim P f n todo fr (.kl D ((y, u) :: zs) :: (H.eraseIdx 0).eraseIdx j) x X K) : Sim P f n todo fr H x X K := by
  refine sMeet 0 j hj0 hj (fun Z w G1 G2 hd ⟨Fs, k1, k2, k3⟩ h2 => ?_) h
  subst hch
  refine ⟨fun k => match k with | 0 => G2 | k + 1 => Fs k, fun k x u2 hx hu ho => ?_, fun k b hb => ?_, fun k k' b hb hb' => ?_⟩
  · cases k with
    | zero => simp at hx hu; subst hx hu; exact h2
    | succ k => simp at hx hu; exact k1 k x u2 (by simpa using hx) (by simpa using hu) (by simp)
  · cases k with
    | zero => exact .inr hb
    | succ k => exact .inl (k2 k b hb)
  · cases k <;> cases k'
    · rfl
    · exact (hd b (k2 _ b hb') hb).elim
    · exact (hd b (k2 _ b hb) hb').elim
    · rw [k3 _ _ b hb hb']
theorem sMkT {todo : List Item} {zs : List (T × Value)} (j : Nat) (hj0 : H[0]? = some (.kl D zs)) (hj : (H.eraseIdx 0)[j]? = some (.own D.t D.c v zs)) (h : Sim P f n todo fr (.tro D v (zs.map Prod.fst) none :: (H.eraseIdx 0).eraseIdx j) x X K) : Sim P f n todo fr H x X K :=
  sMeet (r := .tro D v (zs.map Prod.fst) none) 0 j hj0 hj (fun Z w G1 G2 hd h1 h2 => ⟨zs.map Prod.snd, G2, G1, (by simp), (fun i u e => by cases e), (by rw [zip_fs]; exact h2), h1, fun b hb => ⟨.inr hb, fun y => hd b y hb⟩, fun b hb => .inl hb⟩) h
/-- A tree without elements. -/
theorem sT0 {todo : List Item} (j : Nat) (D : Tr T) (hj : H[j]? = some (.own D.t D.c v ([] : List (T × Value)))) (h : Sim P f n todo fr (H.set j (.tro D v [] none)) x X K) : Sim P f n todo fr H x X K :=
  sTurn (r' := .tro D v [] none) j hj (fun Z w F1 h1 => ⟨[], F1, fun _ => False, rfl, (fun i u e => by cases e), h1, ⟨fun _ _ => False, fun k x u hx => by simp at hx, fun _ _ x => x, fun _ _ _ x => x.elim⟩, fun b hb => ⟨hb, id⟩, fun _ x => x.elim⟩) h
/-- A tree whose elements are read alone from here on. -/
theorem sDownT {todo : List Item} (j : Nat) (hj : H[j]? = some (.tro D v xs none)) (h : Sim P f n todo fr (.own D.t D.q v xs :: H.eraseIdx j) x X K) : Sim P f n todo fr H x X K := by
  intro q hq w0 F0 Z0 w F Z tmps hn hi hf
  obtain ⟨F1, F2, h1, h2, d1, d2⟩ := hi.res.take hj
  obtain ⟨us, E1, E2, hl, _, h3, ⟨Fs, k1, k2, k3⟩, e1, e2⟩ := h1
  have hzz : ∀ b, Z b → Z b ∨ E2 b := fun _ x => .inl x
  have hown : (Res.own D.t D.q v xs).h (fun b => Z b ∨ E2 b) w E1 := by
    rcases h3 with ⟨cs, g1, g2, g3⟩ | ⟨hz, A, rfl⟩
    · refine .inl ⟨cs, by rw [D.sz, ← zip_len hl]; exact g1, g2, fun i x hx => ?_⟩
      have hi' : i < xs.length := by
        rcases Nat.lt_or_ge i xs.length with h | h
        · exact h
        · simp [h] at hx
      have hu : us[i]? = some (us[i]'(by omega)) := List.getElem?_eq_getElem (by omega)
      obtain ⟨vs, q1, q2⟩ := g3 i (x, us[i]'(by omega)) (by simp [List.getElem?_zip_eq_some, hx, hu])
      exact ⟨vs, (D.fz (k1 i x _ hx hu (by simp [holed])) q1).st (fun b hb => hb.imp id (k2 i b)) (fun _ _ => rfl), by rw [D.sz]; exact q2⟩
    · refine .inr ⟨?_, A, rfl⟩
      have := congrArg List.length hz
      rw [zip_len hl] at this
      exact List.length_eq_zero_iff.1 (by simpa using this)
  refine h q hq w0 F0 Z0 w (fun b => F b ∧ ¬ E2 b) (fun b => Z b ∨ E2 b) tmps hn ?_ (hf.st hzz (Keep.refl _ _))
  exact hi.step (F1 := fun _ => False) (Step.refl _ _) (fun _ x => x.elim) hzz (fun b x => x.imp id fun y => .inl (d1 b (e2 b y)).1) (fun b hb => ⟨.inl hb.1, fun x => x.elim (hi.fin b hb.1).2.2 hb.2⟩) ⟨E1, F2, hown, h2.st hzz (fun _ _ => rfl), fun b hb => ⟨⟨(d1 b (e1 b hb).1).1, (e1 b hb).2⟩, (d1 b (e1 b hb).1).2⟩, fun b hb => ⟨d2 b hb, fun y => (d1 b (e2 b y)).2 hb⟩⟩

/-! ### Lending -/
/-- What is owned, as memory to be read. -/
inductive LendL (H : List Res) : List AV → List AV → Prop
  | n : LendL H [] []
  | k {a : AV} {as bs : List AV} : LendL H as bs → LendL H (a :: as) (a :: bs)
  | e {T : Type} (c : Co T) {as bs : List AV} : LendL H as bs → LendL H (.lit (.slice none 0 0) :: as) (.fsl c [] :: bs)
  | o {T : Type} {t : TypeId} {c : Co T} {v : Value} {xs : List T} {as bs : List AV} (j : Nat) : H[j]? = some (.own t c v xs) → LendL H as bs → LendL H (.sv v :: as) (.fsl c xs :: bs)
  | z {T : Type} {c : Co T} {v : Value} {xs : List T} {as bs : List AV} (j : Nat) : H[j]? = some (.fz c v xs) → LendL H as bs → LendL H (.sv v :: as) (.fsl c xs :: bs)
  | t {T : Type} {D : Tr T} {v : Value} {xs : List T} {as bs : List AV} (j : Nat) : H[j]? = some (.tro D v xs none) → LendL H as bs → LendL H (.sv v :: as) (.fsl D.q xs :: bs)
  | x {a b : AV} {as bs : List AV} : (∀ {Z F : Nat → Prop} {w : World} {u : Value}, HAll H Z w F → a.p Z w u → b.p (fun b => Z b ∨ F b) w u) → LendL H as bs → LendL H (a :: as) (b :: bs)
theorem lend_ok {as bs : List AV} (h : LendL H as bs) {Z F : Nat → Prop} {w : World} (hH : HAll H Z w F) : ∀ {vs : List Value}, AllP Z w as vs → AllP (fun b => Z b ∨ F b) w bs vs := by
  have hzz : ∀ b, Z b → Z b ∨ F b := fun _ x => .inl x
  induction h with
  | n => intro vs h; cases h; exact .nil
  | k _ ih => intro vs h; cases h with | cons h1 h2 => exact .cons (AV.st _ hzz (Keep.refl _ _) h1) (ih h2)
  | e c _ ih => intro vs h; cases h with | cons h1 h2 => exact .cons (by rw [show _ = _ from h1]; exact nil_fsl c _ _) (ih h2)
  | o j hj _ ih =>
    intro vs h; cases h with | cons h1 h2 =>
    obtain ⟨F1, g1, hF⟩ := hH.at hj
    exact .cons (by rw [h1.1]; exact AV.st _ (fun b hb => hb.imp id (hF b)) (Keep.refl _ _) (own_fsl g1)) (ih h2)
  | z j hj _ ih =>
    intro vs h; cases h with | cons h1 h2 =>
    obtain ⟨F1, g1, hF⟩ := hH.at hj
    exact .cons (by rw [h1.1]; exact AV.st _ hzz (Keep.refl _ _) g1) (ih h2)
  | t j hj _ ih =>
    intro vs h; cases h with | cons h1 h2 =>
    obtain ⟨F1, g1, hF⟩ := hH.at hj
    exact .cons (by rw [h1.1]; exact AV.st _ (fun b hb => hb.imp id (hF b)) (Keep.refl _ _) (tro_fsl g1)) (ih h2)
  | x hab _ ih => intro vs h; cases h with | cons h1 h2 => exact .cons (hab hH h1) (ih h2)
theorem lendA {as bs : List AV} (h : LendL H as bs) {Z F : Nat → Prop} {w : World} {u : Value} (hH : HAll H Z w F) (hp : (AV.agg as).p Z w u) : (AV.agg bs).p (fun b => Z b ∨ F b) w u := by
  obtain ⟨vs, e, h1⟩ := hp
  exact ⟨vs, e, lend_ok h hH h1⟩
theorem lend1 {a b : AV} (h : LendL H [a] [b]) {Z F : Nat → Prop} {w : World} {u : Value} (hH : HAll H Z w F) (hp : a.p Z w u) : b.p (fun b => Z b ∨ F b) w u := by
  have := lend_ok h hH (AllP.cons hp .nil)
  cases this with | cons h1 _ => exact h1

def FlatR (r : Res) : Prop := ∀ Z Z' w F, r.h Z w F → r.h Z' w F
theorem flSv {v : Value} : Flat (.sv v) := fun _ _ _ _ _ h => h
theorem flOwn {t : TypeId} {c : Co T} {xs : List T} (h : ∀ x, FlatL (c.e x)) : FlatR (.own t c v xs) := fun Z Z' w F hr => hr.imp (fun ⟨cs, h1, h2, h3⟩ => ⟨cs, h1, h2, fun i x hx => let ⟨vs, g1, g2⟩ := h3 i x hx; ⟨vs, flL (h x) g1, g2⟩⟩) id
def FlatRs : List Res → Prop
  | [] => True
  | r :: rs => FlatR r ∧ FlatRs rs
theorem HAll.flat {H : List Res} (h : FlatRs H) {Z Z' : Nat → Prop} {w : World} : ∀ {F : Nat → Prop}, HAll H Z w F → HAll H Z' w F := by
  induction H with
  | nil => intro F _; trivial
  | cons r rs ih => rintro F ⟨F1, F2, h1, h2, d1, d2⟩; exact ⟨F1, F2, h.1 _ _ _ _ h1, ih h.2 h2, d1, d2⟩

/-- A call that is lent what is owned, to be read; what comes back is owned and hangs on no memory that was there. -/
theorem sCallL {g : FuncId} {y : Operand} {args : Array Operand} {ts : Array TypeId} {avs : List AV} {Q I : Type} {z : Option Q} {A : Q → I → AV} {B : Q → I → List Res} {r : Q} (hg : Ent P g) (hy : arg fr y = some (.lit (.func (.func g) #[] #[]))) (hp : Hands P g avs [] z A B) (hz : z = some r) (hfa : ∀ ι, Flat (A r ι)) (hfb : ∀ ι, FlatRs (B r ι)) (ha : Args fr H args.toList avs) (hdn : Nat.blt d n = true)
    (h : ∀ ι, SimL P f n ops l k ((d, A r ι) :: fr) (B r ι ++ H) x X K) : SimL P f n ops (⟨some d, .call ⟨.value y, args, ts⟩, ty, pos, aft, none⟩ :: l) k fr H x X K := by
  intro is hs r' hr w0 F0 Z0 w F Z tmps hn hi hf
  cases is with
  | nil => simp at hs
  | cons i is =>
    simp only [List.map_cons, List.cons.injEq] at hs
    have hdn' : d < n := by simpa [Nat.blt_eq] using hdn
    have all : ∀ {x : Operand} {a : AV}, arg fr x = some a → a.p Z w ((⟨tmps, []⟩ : Act).eval x) := by
      intro x a hx
      cases x with
      | tmp t => exact hf t a hx
      | const v => simp [arg] at hx; subst hx; rfl
      | func g => simp [arg] at hx; subst hx; rfl
      | global g => simp [arg] at hx; subst hx; rfl
    have hargs := args_ok (ρ := (⟨tmps, []⟩ : Act).eval) ha hi.res fun {x a} _ hx => all hx
    have hin : Inv w w (fun _ => False) (fun b => Z b ∨ F b) (fun _ => False) (fun b => Z b ∨ F b) [] := ⟨Base.refl _ _, fun _ x => x, fun b hb => ⟨hb.elim (fun x => (hi.zin b x).1) (fun x => (hi.fin b x).1), .inl hb⟩, fun _ x => x.elim, trivial⟩
    refine .enter hs.1 (wanted_none rfl) (call_run' (all hy) rfl hg) (hp r hz w (fun _ => False) (fun b => Z b ∨ F b) _ hargs hin) ?_
    rintro e w'' ⟨v, rfl, F', Z', av, H', ⟨ι, rfl, rfl⟩, hinv, hv⟩
    refine ⟨v, rfl, ?_⟩
    have s : Step w w'' (fun _ => False) := ⟨hinv.base.os, hinv.base.tape, hinv.base.output, hinv.base.drawn, hinv.base.size, fun b hb _ => hinv.base.keep b hb id⟩
    have hk := s.keep' hi
    have hF' : ∀ b, F' b → w.heap.size ≤ b ∧ b < w''.heap.size := fun b hb => ⟨(hinv.fin b hb).2.1.elim (fun z => z.elim) id, (hinv.fin b hb).1⟩
    refine h ι is hs.2 r' hr w0 F0 Z0 w'' (fun b => F' b ∨ F b) Z _ (by simpa [putT] using hn) ?_ ((hf.st (fun _ x => x) hk).put (by omega) (hfa ι _ _ _ _ _ hv))
    refine hi.step s (fun _ x => x.elim) (fun _ x => x) (fun _ x => .inl x) (fun b hb => ?_) ((hinv.res.flat (hfb ι)).append (hi.res.st (fun _ x => x) fun b hb => s.keep b (hb.elim (fun x => (hi.zin b x).1) (fun x => (hi.fin b x).1)) id) fun b hb hF => ?_)
    · rcases hb with hb | hb
      · exact ⟨.inr (hF' b hb), fun hz => by have := (hi.zin b hz).1; have := (hF' b hb).1; omega⟩
      · exact ⟨.inl hb, (hi.fin b hb).2.2⟩
    · have := (hi.fin b hF).1; have := (hF' b hb).1; omega

/-- A struct in a slot, whose cell is the nil slice, to be appended to. -/
theorem sNilAg {todo : List Item} (u i : Nat) (e : TypeId) (c : Co T) {az : List AV} (hu : look fr u = some (.agg az)) (hi0 : az[i]? = some (.lit (.slice none 0 0))) (h : ∀ v, Sim P f n todo ((u, .agg (az.set i (.sv v))) :: fr) (.own e c v [] :: H) x X K) : Sim P f n todo fr H x X K := by
  intro r hr w0 F0 Z0 w F Z tmps hn hi hf
  refine h (.slice none 0 0) r hr w0 F0 Z0 w F Z tmps hn ?_ fun t a ht => ?_
  · refine ⟨hi.base, hi.z0, hi.zin, hi.fin, fun _ => False, F, .inr ⟨rfl, none, rfl⟩, hi.res, fun b hb => hb.elim, fun b hb => hb⟩
  · simp only [look] at ht
    by_cases e : u = t
    · subst e; simp at ht; subst ht
      exact agg_imp (hf u _ hu) hi0 fun u hu => ⟨hu, _, _, _, rfl⟩
    · have : (u == t) = false := by simpa using e
      rw [this] at ht; exact hf t a (by simpa using ht)

/-! ### Within regions -/
theorem sKl0L (D : Tr T) (h : SimL P f n ops l k fr (.kl D [] :: H) x X K) : SimL P f n ops l k fr H x X K := fun is hs => sKl0 D (h is hs)
theorem sKl1L {zs : List (T × Value)} {y : T} {u : Value} {r2 : Res} (j : Nat) (D : Tr T) (hj0 : H[0]? = some (.kl D zs)) (hj : (H.eraseIdx 0)[j]? = some r2) (hch : D.ch y u = r2) (h : SimL P f n ops l k fr (.kl D ((y, u) :: zs) :: (H.eraseIdx 0).eraseIdx j) x X K) : SimL P f n ops l k fr H x X K := fun is hs => sKl1 j D hj0 hj hch (h is hs)
theorem sMkTL {zs : List (T × Value)} (j : Nat) (hj0 : H[0]? = some (.kl D zs)) (hj : (H.eraseIdx 0)[j]? = some (.own D.t D.c v zs)) (h : SimL P f n ops l k fr (.tro D v (zs.map Prod.fst) none :: (H.eraseIdx 0).eraseIdx j) x X K) : SimL P f n ops l k fr H x X K := fun is hs => sMkT j hj0 hj (h is hs)
theorem sT0L (j : Nat) (D : Tr T) (hj : H[j]? = some (.own D.t D.c v ([] : List (T × Value)))) (h : SimL P f n ops l k fr (H.set j (.tro D v [] none)) x X K) : SimL P f n ops l k fr H x X K := fun is hs => sT0 j D hj (h is hs)
theorem sDownTL (j : Nat) (hj : H[j]? = some (.tro D v xs none)) (h : SimL P f n ops l k fr (.own D.t D.q v xs :: H.eraseIdx j) x X K) : SimL P f n ops l k fr H x X K := fun is hs => sDownT j hj (h is hs)
theorem sNilAgL (u i : Nat) (e : TypeId) (c : Co T) {az : List AV} (hu : look fr u = some (.agg az)) (hi0 : az[i]? = some (.lit (.slice none 0 0))) (h : ∀ v, SimL P f n ops l k ((u, .agg (az.set i (.sv v))) :: fr) (.own e c v [] :: H) x X K) : SimL P f n ops l k fr H x X K := fun is hs => sNilAg u i e c hu hi0 fun v => h v is hs

/-- Elements with what is owned below them are put to a tree. -/
theorem sApT {y u : Operand} {zs : List (T × Value)} {z : Value} {bytes : Nat} (j : Nat) (hj0 : H[0]? = some (.kl D zs)) (hj : (H.eraseIdx 0)[j]? = some (.tro D v xs none)) (ht : P.underlying t = some (.slice D.t)) (hinfo : Info P D.t z D.c.sz bytes) (hzs : z.cells.size = D.c.sz) (hy : arg fr y = some (.sv v)) (hu : arg fr u = some (.fsl D.c zs)) (hb : (xs.length + zs.length) * bytes ≤ 140737488355328) (hb0 : Nat.blt 0 bytes = true) (hdn : Nat.blt d n = true)
    (h : ∀ v', SimL P f n ops l k ((d, .sv v') :: fr) (.tro D v' (xs ++ zs.map Prod.fst) none :: (H.eraseIdx 0).eraseIdx j) x X K) : SimL P f n ops (⟨some d, .call ⟨.builtin .append, #[y, u], #[t, t]⟩, ty, pos, aft, none⟩ :: l) k fr H x X K := by
  intro is hi
  obtain ⟨H1, rfl⟩ : ∃ H1, H = .kl D zs :: H1 := by
    cases H with
    | nil => simp at hj0
    | cons a H1 => simp at hj0; exact ⟨H1, by rw [hj0]⟩
  simp only [List.eraseIdx_cons_zero] at hj h
  refine sPartT (j + 1) (by simpa using hj) fun us hl _ => ?_
  refine sAp (j := 0) (xs := xs.zip us) ht hinfo hzs hy rfl hu (by rw [zip_len hl]; exact hb) hb0 hdn (fun v' is2 hi2 => ?_) is hi
  simp only [List.set_cons_zero, List.eraseIdx_cons_succ]
  refine sMeet (r := .kids D.ch (xs ++ zs.map Prod.fst) (us ++ zs.map Prod.snd) none) 1 1 rfl rfl (fun Z w G1 G2 hd ⟨Fs, a1, a2, a3⟩ ⟨Es, b1, b2, b3⟩ => ?_) ?_
  · refine ⟨fun k => if k < xs.length then Fs k else Es (k - xs.length), fun k q u2 hq hu2 ho => ?_, fun k b hb => ?_, fun k k' b hb hb' => ?_⟩
    · by_cases hk : k < xs.length
      · rw [List.getElem?_append_left hk] at hq
        rw [List.getElem?_append_left (by omega)] at hu2
        show (D.ch q u2).h Z w (if k < xs.length then Fs k else Es (k - xs.length))
        rw [if_pos hk]; exact a1 k q u2 hq hu2 (by simp [holed])
      · rw [List.getElem?_append_right (by omega)] at hq
        rw [List.getElem?_append_right (by omega), hl] at hu2
        show (D.ch q u2).h Z w (if k < xs.length then Fs k else Es (k - xs.length))
        rw [if_neg hk]; exact b1 _ q u2 hq hu2 (by simp)
    · simp only at hb
      split at hb
      · exact .inl (a2 _ b hb)
      · exact .inr (b2 _ b hb)
    · simp only at hb hb'
      split at hb <;> split at hb'
      · exact a3 _ _ b hb hb'
      · exact (hd b (a2 _ b hb) (b2 _ b hb')).elim
      · exact (hd b (a2 _ b hb') (b2 _ b hb)).elim
      · have := b3 _ _ b hb hb'; omega
  · have e : xs.zip us ++ zs = (xs ++ zs.map Prod.fst).zip (us ++ zs.map Prod.snd) := by
      rw [List.zip_append hl.symm, zip_fs]
    rw [e]
    refine sPk (H' := .own D.t D.c v' ((xs ++ zs.map Prod.fst).zip (us ++ zs.map Prod.snd)) :: .kids D.ch (xs ++ zs.map Prod.fst) (us ++ zs.map Prod.snd) (holed none) :: H1.eraseIdx j) (1 :: 0 :: List.replicate (H1.eraseIdx j).length 0) ?_ ?_
    · show _ :: _ :: pickR (H1.eraseIdx j) (List.replicate (H1.eraseIdx j).length 0) = _
      congr 2
      generalize H1.eraseIdx j = L
      induction L with
      | nil => rfl
      | cons a L ih => simp only [List.length_cons, List.replicate_succ]; show a :: pickR L _ = _; rw [ih]
    · exact sMeetT (by simp [hl]) (fun i u e => by cases e) (h v' is2 hi2)

/-- What comes back owned may be taken as memory that is read alone. -/
theorem pure_of_hands {g : FuncId} {avs : List AV} {Q I : Type} {y : Option Q} {A : Q → I → AV} {B : Q → I → List Res} {en : Q → AV} (h : Hands P g avs [] y A B) (hA : ∀ r ι Z F w u, HAll (B r ι) Z w F → (A r ι).p Z w u → (en r).p (fun b => Z b ∨ F b) w u) : Pure P g avs y en := by
  intro r hr w F Z vs h1 h2
  refine (h r hr w F Z vs h1 h2).mono fun e w' ⟨v, he, F', Z', a, H', ⟨u, ha, hH⟩, hinv, hp⟩ => ?_
  subst ha hH
  have hzz : ∀ b, Z' b → Z' b ∨ F' b := fun _ x => .inl x
  exact ⟨v, he, fun _ => False, fun b => Z' b ∨ F' b, _, [], ⟨rfl, rfl⟩, hinv.step (F1 := fun _ => False) (Step.refl _ _) (fun _ x => x.elim) hzz (fun b x => x.imp id fun y => .inl y) (fun b x => x.elim) trivial, hA r u _ _ _ v hinv.res hp⟩

/-! ### A tree whose parts are taken out, one behind the other -/
/-- What is owned below, from m on, but at o. -/
def Res.kidsQ {T : Type} (ch : T → Value → Res) (xs : List T) (us : List Value) (m : Nat) (o : Option Nat) : Res :=
  ⟨fun Z w F => ∃ Fs : Nat → Nat → Prop, (∀ k x u, xs[k]? = some x → us[k]? = some u → m ≤ k → o ≠ some k → (ch x u).h Z w (Fs k)) ∧ (∀ k b, Fs k b → F b) ∧ ∀ k k' b, Fs k b → Fs k' b → k = k',
   fun hz hk ⟨Fs, h1, h2, h3⟩ => ⟨Fs, fun k x u hx hu hm ho => (ch x u).st hz (fun b hb => hk b (hb.imp id (h2 k b))) (h1 k x u hx hu hm ho), h2, h3⟩⟩
def Res.trq {T : Type} (D : Tr T) (v : Value) (xs : List T) (m : Int) (o : Option (Int × Value)) : Res :=
  ⟨fun Z w F => ∃ us : List Value, ∃ F1 F2 : Nat → Prop, us.length = xs.length ∧ (∀ (i : Int) (u : Value), o = some (i, u) → us[i.toNat]? = some u) ∧ (Res.own D.t D.c v (xs.zip us)).h Z w F1 ∧ (Res.kidsQ D.ch xs us m.toNat (holed o)).h Z w F2 ∧ (∀ b, F1 b → F b ∧ ¬ F2 b) ∧ ∀ b, F2 b → F b,
   fun hz hk ⟨us, F1, F2, h1, h2, h3, h4, d1, d2⟩ => ⟨us, F1, F2, h1, h2, Res.st _ hz (fun b hb => hk b (hb.imp id fun x => (d1 b x).1)) h3, Res.st _ hz (fun b hb => hk b (hb.imp id (d2 b))) h4, d1, d2⟩⟩
theorem trq_part {m : Int} {Z F1 : Nat → Prop} {w : World} (h : (Res.trq D v xs m o).h Z w F1) : ∃ i : { us : List Value // us.length = xs.length ∧ ∀ i u, o = some (i, u) → us[i.toNat]? = some u }, ∃ G1 G2 : Nat → Prop, (Res.own D.t D.c v (xs.zip i.1)).h Z w G1 ∧ (Res.kidsQ D.ch xs i.1 m.toNat (holed o)).h Z w G2 ∧ (∀ b, G1 b → F1 b ∧ ¬ G2 b) ∧ (∀ b, G2 b → F1 b) := by
  obtain ⟨us, G1, G2, hl, ho, h3, h4, d1, d2⟩ := h
  exact ⟨⟨us, hl, ho⟩, G1, G2, h3, h4, d1, d2⟩
theorem dTrq {m : Int} {op : Op} {av : AV} (hj : H[j]? = some (.trq D v xs m o)) (h : ∀ us : List Value, us.length = xs.length → (∀ i u, o = some (i, u) → us[i.toNat]? = some u) → S.D P n (.own D.t D.c v (xs.zip us) :: .kidsQ D.ch xs us m.toNat (holed o) :: H.eraseIdx j) op ty fr av) : S.D P n H op ty fr av := by
  intro q ho hty w0 F0 Z0 w F Z tmps hn hi hf
  obtain ⟨us, hi'⟩ := hi.part (ra := fun i : { us : List Value // us.length = xs.length ∧ ∀ i u, o = some (i, u) → us[i.toNat]? = some u } => .own D.t D.c v (xs.zip i.1)) (rb := fun i => .kidsQ D.ch xs i.1 m.toNat (holed o)) hj fun F1 h1 => trq_part h1
  exact h us.1 us.2.1 us.2.2 q ho hty w0 F0 Z0 w F Z tmps hn hi' hf
theorem dLenQ {m : Int} {y : Operand} (ht : P.underlying t = some (.slice e)) (hy : arg fr y = some (.sv v)) (hj : H[j]? = some (.trq D v xs m o)) : S.D P n H (.call ⟨.builtin .len, #[y], #[t]⟩) ty fr (Ai .i64 xs.length) :=
  dTrq hj fun us hl _ => by
    have := dLenO (P := P) (n := n) (ty := ty) (j := 0) (H := .own D.t D.c v (xs.zip us) :: .kidsQ D.ch xs us m.toNat (holed o) :: H.eraseIdx j) ht hy rfl
    rw [zip_len hl] at this; exact this
theorem dIxQ {m : Int} {y z : Operand} {kd : IntKind} {i : Int} (ht : P.underlying t = some (.slice e)) (hsz : SizeIs P e D.c.sz) (hy : arg fr y = some (.sv v)) (hj : H[j]? = some (.trq D v xs m o)) (hz : arg fr z = some (Ai kd i)) (h0 : 0 ≤ i) (h1 : i < xs.length) : S.D P n H (.indexAddr t y z) ty fr (.ep v (i.toNat * D.c.sz)) :=
  dTrq hj fun us hl _ => dIxO (j := 0) ht hsz hy rfl hz h0 (by rw [zip_len hl]; exact h1)
theorem dLdQhA [Inhabited T] {m : Int} {y : Operand} {q0 off q : Nat} {i : Int} {u : Value} (hg : IsAgg P t true) (hs : SizeIs P t q) (hy : arg fr y = some (.ep v q0)) (hj : H[j]? = some (.trq D v xs m (some (i, u)))) (hm : q0 = i.toNat * D.c.sz + off) (h0 : 0 ≤ i) (h1 : i < xs.length) (hq : off + q ≤ D.c.sz) : S.D P n H (.load t y) ty fr (.agg (((D.c.e (rd xs i, u)).drop off).take q)) :=
  dTrq hj fun us hl ho => by
    have := dLdOA (P := P) (n := n) (ty := ty) (j := 0) (c := D.c) (H := .own D.t D.c v (xs.zip us) :: .kidsQ D.ch xs us m.toNat (holed (some (i, u))) :: H.eraseIdx j) i hg hs hy rfl hm h0 (by rw [zip_len hl]; exact h1) hq
    rw [rd_zip hl (ho i u rfl) h0 h1] at this; exact this
theorem sTq0 {todo : List Item} (j : Nat) (hj : H[j]? = some (.tro D v xs none)) (h : Sim P f n todo fr (H.set j (.trq D v xs 0 none)) x X K) : Sim P f n todo fr H x X K :=
  sTurn (r' := .trq D v xs 0 none) j hj (fun Z w F1 ⟨us, E1, E2, hl, ho, h3, ⟨Fs, k1, k2, k3⟩, d1, d2⟩ => ⟨us, E1, E2, hl, ho, h3, ⟨Fs, fun k x u hx hu _ hh => k1 k x u hx hu hh, k2, k3⟩, d1, d2⟩) h
theorem sOpenQ [Inhabited T] {todo : List Item} (j : Nat) (i : Int) (hj : H[j]? = some (.trq D v xs i none)) (h0 : 0 ≤ i) (h1 : i < xs.length) (h : ∀ u, Sim P f n todo fr (.trq D v xs i (some (i, u)) :: D.ch (rd xs i) u :: H.eraseIdx j) x X K) : Sim P f n todo fr H x X K := by
  refine sPart j hj (I := Value) (ra := fun u => .trq D v xs i (some (i, u))) (rb := fun u => D.ch (rd xs i) u) (fun Z w F1 hr => ?_) h
  obtain ⟨us, G1, G2, hl, _, h3, ⟨Fs, k1, k2, k3⟩, d1, d2⟩ := hr
  obtain ⟨u, hu⟩ := at_some hl h0 h1
  refine ⟨u, fun b => G1 b ∨ (G2 b ∧ ¬ Fs i.toNat b), Fs i.toNat, ⟨us, G1, fun b => G2 b ∧ ¬ Fs i.toNat b, hl, (fun i' u' e => by cases e; exact hu), h3, ⟨fun k b => k ≠ i.toNat ∧ Fs k b, fun k x u2 hx hu2 hm ho => ?_, fun k b hb => ⟨k2 k b hb.2, fun y => hb.1 (k3 k _ b hb.2 y)⟩, fun k k' b hb hb' => k3 k k' b hb.2 hb'.2⟩, fun b hb => ⟨.inl hb, fun y => (d1 b hb).2 y.1⟩, fun b hb => .inr hb⟩, k1 _ _ _ (rd_get h0 h1) hu (Nat.le_refl _) (by simp [holed]), fun b hb => ?_, fun b hb => d2 b (k2 _ b hb)⟩
  · have e : k ≠ i.toNat := fun e => ho (by simp [holed, e])
    exact (D.ch x u2).st (fun _ y => y) (fun _ _ => rfl) (by
      have := k1 k x u2 hx hu2 hm (by simp [holed])
      have e2 : (fun b => k ≠ i.toNat ∧ Fs k b) = Fs k := by funext b; simp [e]
      show (D.ch x u2).h Z w (fun b => k ≠ i.toNat ∧ Fs k b)
      rw [e2]; exact this)
  · rcases hb with hb | hb
    · exact ⟨(d1 b hb).1, fun y => (d1 b hb).2 (k2 _ b y)⟩
    · exact ⟨d2 b hb.1, hb.2⟩
/-- What was taken out does not come back; the next one is to come. -/
theorem sAbQ {todo : List Item} {i : Int} {u : Value} (j : Nat) (hj : H[j]? = some (.trq D v xs i (some (i, u)))) (h0 : 0 ≤ i) (h1 : i < xs.length) (h : Sim P f n todo fr (H.set j (.trq D v xs (IntKind.wrap .i64 (i + 1)) none)) x X K) : Sim P f n todo fr H x X K :=
  sTurn (r' := .trq D v xs (IntKind.wrap .i64 (i + 1)) none) j hj (fun Z w F1 ⟨us, E1, E2, hl, ho, h3, ⟨Fs, k1, k2, k3⟩, d1, d2⟩ => by
    obtain ⟨g, cap, cur, hv, hh, hcap, hm, _⟩ := own_cells h3 (by rw [zip_len hl]; omega)
    rw [zip_len hl] at hcap
    have hw : IntKind.wrap .i64 (i + 1) = i + 1 := by rw [IntKind.wrap_i64]; rw [mx] at hm; omega
    refine ⟨us, E1, E2, hl, (fun i' u' e => by cases e), h3, ⟨Fs, fun k x u2 hx hu2 hk _ => k1 k x u2 hx hu2 (by rw [hw] at hk; omega) (by simp only [holed, Option.map_some, ne_eq, Option.some.injEq]; rw [hw] at hk; omega), k2, k3⟩, d1, d2⟩) h

/-- A tree whose elements hold nil. -/
theorem sTz {todo : List Item} (j : Nat) (D : Tr T) {z : T} {m : Nat} (hj : H[j]? = some (.own D.t D.c v (List.replicate m (z, .slice none 0 0)))) (hz : ∀ Z w, (D.ch z (.slice none 0 0)).h Z w (fun _ => False)) (h : Sim P f n todo fr (H.set j (.tro D v (List.replicate m z) none)) x X K) : Sim P f n todo fr H x X K :=
  sTurn (r' := .tro D v (List.replicate m z) none) j hj (fun Z w F1 h1 => by
    refine ⟨List.replicate m (.slice none 0 0), F1, fun _ => False, by simp, (fun i u e => by cases e), ?_, ⟨fun _ _ => False, fun k x u hx hu _ => ?_, fun _ _ x => x, fun _ _ _ x => x.elim⟩, fun b hb => ⟨hb, id⟩, fun _ x => x.elim⟩
    · have e : (List.replicate m z).zip (List.replicate m (Value.slice none 0 0)) = List.replicate m (z, Value.slice none 0 0) := by simp
      rw [e]; exact h1
    · rw [List.getElem?_replicate] at hx hu
      split at hx
      · cases hx; rw [if_pos ‹_›] at hu; cases hu; exact hz Z w
      · cases hx) h
theorem sTzL (j : Nat) (D : Tr T) {z : T} {m : Nat} (hj : H[j]? = some (.own D.t D.c v (List.replicate m (z, .slice none 0 0)))) (hz : ∀ Z w, (D.ch z (.slice none 0 0)).h Z w (fun _ => False)) (h : SimL P f n ops l k fr (H.set j (.tro D v (List.replicate m z) none)) x X K) : SimL P f n ops l k fr H x X K := fun is hs => sTz j D hj hz (h is hs)
theorem own_nil {t : TypeId} {c : Co T} {Z F : Nat → Prop} {w : World} : (Res.own t c (.slice none 0 0) ([] : List T)).h Z w F := .inr ⟨rfl, none, rfl⟩
theorem tro_nil {Z F : Nat → Prop} {w : World} : (Res.tro D (.slice none 0 0) [] none).h Z w F := ⟨[], F, fun _ => False, rfl, (fun i u e => by cases e), .inr ⟨rfl, none, rfl⟩, ⟨fun _ _ => False, fun k x u hx => by simp at hx, fun _ _ x => x, fun _ _ _ x => x.elim⟩, fun b hb => ⟨hb, id⟩, fun _ x => x.elim⟩
end
end S
end Go.Proofs.Ytpjhcllohagjoaa
