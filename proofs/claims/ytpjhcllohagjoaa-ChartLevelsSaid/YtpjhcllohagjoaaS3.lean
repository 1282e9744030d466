/-
  Sim: trees of the call's own whose headers are told (objects' nested slices): aliases of inner slices, reads and writes at a path. Own work; no claim stands here.
-/
import Derived.Test.YtpjhcllohagjoaaS2
namespace Go.Proofs.Ytpjhcllohagjoaa
namespace S
open Go.RowKit
set_option linter.unusedVariables false
set_option linter.unusedSimpArgs false
set_option linter.unusedSectionVars false

/-- How a type's values are told whose slices are owned: c: with the headers told (G); q: as memory that is read alone; ch: what is owned below. -/
structure Tg (T : Type) where
  G : Type
  t : TypeId
  c : Co (T × G)
  q : Co T
  ch : T → G → List Res
  sz : q.sz = c.sz
  fz : ∀ {x : T} {u : G} {Z F : Nat → Prop} {w : World} {vs : List Value}, HAll (ch x u) Z w F → AllP Z w (c.e (x, u)) vs → AllP (fun b => Z b ∨ F b) w (q.e x) vs

/-- What is owned below, but at o. -/
def Res.kidsG {T G : Type} (ch : T → G → List Res) (xs : List T) (us : List G) (o : Option Nat) : Res :=
  ⟨fun Z w F => ∃ Fs : Nat → Nat → Prop, (∀ k x u, xs[k]? = some x → us[k]? = some u → o ≠ some k → HAll (ch x u) Z w (Fs k)) ∧ (∀ k b, Fs k b → F b) ∧ ∀ k k' b, Fs k b → Fs k' b → k = k',
   fun hz hk ⟨Fs, h1, h2, h3⟩ => ⟨Fs, fun k x u hx hu ho => (h1 k x u hx hu ho).st hz (fun b hb => hk b (hb.imp id (h2 k b))), h2, h3⟩⟩
def told {G : Type} (us : List G) : Option (Int × G) → List G
  | none => us
  | some p => us.set p.1.toNat p.2
def holeG {G : Type} (o : Option (Int × G)) : Option Nat := o.map fun p => p.1.toNat
theorem told_len {G : Type} {us : List G} {o : Option (Int × G)} : (told us o).length = us.length := by cases o <;> simp [told]
/-- A tree of the call's own whose headers are told; o: where it is opened, and what its headers are there now. -/
def Res.trg {T : Type} (D : Tg T) (v : Value) (xs : List T) (us : List D.G) (o : Option (Int × D.G)) : Res :=
  ⟨fun Z w F => us.length = xs.length ∧ ∃ F1 F2 : Nat → Prop, (Res.own D.t D.c v (xs.zip (told us o))).h Z w F1 ∧ (Res.kidsG D.ch xs us (holeG o)).h Z w F2 ∧ (∀ b, F1 b → F b ∧ ¬ F2 b) ∧ ∀ b, F2 b → F b,
   fun hz hk ⟨hl, F1, F2, h3, h4, d1, d2⟩ => ⟨hl, F1, F2, Res.st _ hz (fun b hb => hk b (hb.imp id fun x => (d1 b x).1)) h3, Res.st _ hz (fun b hb => hk b (hb.imp id (d2 b))) h4, d1, d2⟩⟩

theorem rd_zipG {T G : Type} [Inhabited T] [Inhabited G] {xs : List T} {us : List G} {i : Int} (hl : us.length = xs.length) (h0 : 0 ≤ i) (h1 : i < xs.length) : rd (xs.zip us) i = (rd xs i, rd us i) := by
  have h2 : i.toNat < xs.length := by omega
  have h3 : i.toNat < us.length := by omega
  simp [rd, List.getD_eq_getElem?_getD, h2, h3, hl]
theorem zip_lenG {T G : Type} {xs : List T} {us : List G} (hl : us.length = xs.length) : (xs.zip us).length = xs.length := by simp [hl]
theorem zip_setG {T G : Type} {x' : T} {u' : G} : ∀ {xs : List T} {us : List G} {i : Nat}, (xs.zip us).set i (x', u') = (xs.set i x').zip (us.set i u')
  | [], us, i => by simp
  | x :: xs, [], i => by cases i <;> simp
  | x :: xs, v :: us, 0 => by simp
  | x :: xs, v :: us, i + 1 => by simp [zip_setG]
theorem set_rd {T : Type} [Inhabited T] {xs : List T} {i : Int} (h0 : 0 ≤ i) (h1 : i < xs.length) : xs.set i.toNat (rd xs i) = xs := by
  have h2 := rd_get h0 h1
  apply List.ext_getElem?
  intro k
  rw [List.getElem?_set]
  by_cases e : i.toNat = k
  · subst e; rw [if_pos rfl, if_pos (by omega), h2]
  · rw [if_neg e]

/-- Picked out of a list of what is owned, one behind the other; and the rest. -/
def pk : List Res → List Nat → Option (List Res × List Res)
  | H, [] => some ([], H)
  | H, j :: js => match H[j]? with
    | some r => (pk (H.eraseIdx j) js).map fun p => (r :: p.1, p.2)
    | none => none
theorem HAll.pk {Z : Nat → Prop} {w : World} : ∀ {js : List Nat} {H ks R : List Res} {F : Nat → Prop}, S.pk H js = some (ks, R) → HAll H Z w F → ∃ F1 F2 : Nat → Prop, HAll ks Z w F1 ∧ HAll R Z w F2 ∧ (∀ b, F1 b → F b ∧ ¬ F2 b) ∧ ∀ b, F2 b → F b
  | [], H, ks, R, F, h, hH => by simp [S.pk] at h; obtain ⟨rfl, rfl⟩ := h; exact ⟨fun _ => False, F, trivial, hH, fun _ x => x.elim, fun _ x => x⟩
  | j :: js, H, ks, R, F, h, hH => by
    unfold S.pk at h
    cases hr : H[j]? with
    | none => simp [hr] at h
    | some r =>
      simp only [hr, Option.map_eq_some_iff] at h
      obtain ⟨⟨ks', R'⟩, h2, h3⟩ := h
      simp at h3; obtain ⟨rfl, rfl⟩ := h3
      obtain ⟨F1, F2, h1, h4, d1, d2⟩ := hH.take hr
      obtain ⟨F3, F4, h5, h6, e1, e2⟩ := HAll.pk h2 h4
      refine ⟨fun b => F1 b ∨ F3 b, F4, ⟨F1, F3, h1, h5, fun b hb => ⟨.inl hb, fun x => (d1 b hb).2 (e1 b x).1⟩, fun b hb => .inr hb⟩, h6, fun b hb => ?_, fun b hb => d2 b (e2 b hb)⟩
      rcases hb with hb | hb
      · exact ⟨(d1 b hb).1, fun x => (d1 b hb).2 (e2 b x)⟩
      · exact ⟨d2 b (e1 b hb).1, (e1 b hb).2⟩

/-- A closed tree is memory that may be read alone. -/
theorem trg_fsl {T : Type} {D : Tg T} {v : Value} {xs : List T} {us : List D.G} {Z F : Nat → Prop} {w : World} (h : (Res.trg D v xs us none).h Z w F) : (AV.fsl D.q xs).p (fun b => Z b ∨ F b) w v := by
  obtain ⟨hl, F1, F2, h3, ⟨Fs, k1, k2, k3⟩, d1, d2⟩ := h
  obtain ⟨A, m, e1, hc, hel⟩ := own_fsl (xs := xs.zip us) h3
  rw [zip_lenG hl] at e1 hc
  refine ⟨A, m, e1, hc, fun i x hx => ?_⟩
  have hi : i < xs.length := by
    rcases Nat.lt_or_ge i xs.length with h | h
    · exact h
    · simp [h] at hx
  have hu : us[i]? = some (us[i]'(by omega)) := List.getElem?_eq_getElem (by omega)
  obtain ⟨a, ea, hb, vs, g1, g2⟩ := hel i (x, us[i]'(by omega)) (by simp [List.getElem?_zip_eq_some, hx, hu])
  refine ⟨a, ea, hb.imp id fun y => (d1 _ y).1, vs, ?_, by rw [D.sz]; exact g2⟩
  have hk := (k1 i x _ hx hu (by simp [holeG])).st (Z' := fun b => Z b ∨ F1 b) (w' := w) (fun _ y => .inl y) (fun _ _ => rfl)
  exact (D.fz hk g1).st (fun b hb => by rcases hb with (y | y) | y; exact .inl y; exact .inr (d1 b y).1; exact .inr (d2 b (k2 i b y))) (fun _ _ => rfl)
theorem trg_sv {T : Type} {D : Tg T} {v : Value} {xs : List T} {us : List D.G} {o : Option (Int × D.G)} {Z F : Nat → Prop} {w : World} (h : (Res.trg D v xs us o).h Z w F) : ∃ A m, v = .slice A xs.length m := by
  obtain ⟨hl, F1, F2, h3, _⟩ := h
  obtain ⟨A, m, e⟩ := own_sv h3
  exact ⟨A, m, by rw [zip_lenG (told_len.trans hl)] at e; exact e⟩

section
variable {P : Program} {f : FuncId} {n : Nat} {ops : Array Oper} {l : List Oper} {k : List Item} {fr : Fr} {H : List Res} {ρ R : Type} {x : Option ρ} {X : ρ → Option R} {K : R → AV → List Res → Prop} {ty t t' e t0 : TypeId} {d : Nat} {pos : String} {aft : Array Edge}
variable {T : Type} {D : Tg T} {v : Value} {xs : List T} {us : List D.G} {j : Nat} {o : Option (Int × D.G)}

theorem dLess {H' : List Res} {op : Op} {av : AV} (hH : ∀ {Z F : Nat → Prop} {w : World}, HAll H Z w F → HAll H' Z w F) (h : S.D P n H' op ty fr av) : S.D P n H op ty fr av :=
  fun o ho hty w0 F0 Z0 w F Z tmps hn hi hf => h o ho hty w0 F0 Z0 w F Z tmps hn (hi.less hH) hf
theorem sLess {todo : List Item} {H' : List Res} (hH : ∀ {Z F : Nat → Prop} {w : World}, HAll H Z w F → HAll H' Z w F) (h : Sim P f n todo fr H' x X K) : Sim P f n todo fr H x X K :=
  fun r hr w0 F0 Z0 w F Z tmps hn hi hf => h r hr w0 F0 Z0 w F Z tmps hn (hi.less hH) hf

theorem trg_at {Z F : Nat → Prop} {w : World} (hH : HAll H Z w F) (hj : H[j]? = some (.trg D v xs us o)) : us.length = xs.length := by
  obtain ⟨F1, h, _⟩ := hH.at hj
  exact h.1
/-- A tree in two parts. -/
theorem trg_part {Z F : Nat → Prop} {w : World} (hH : HAll H Z w F) (hj : H[j]? = some (.trg D v xs us o)) : HAll (.own D.t D.c v (xs.zip (told us o)) :: .kidsG D.ch xs us (holeG o) :: H.eraseIdx j) Z w F := by
  obtain ⟨F1, F2, ⟨hl, G1, G2, g1, g2, e1, e2⟩, h2, d1, d2⟩ := hH.take hj
  exact ⟨G1, fun b => G2 b ∨ F2 b, g1, ⟨G2, F2, g2, h2, fun b hb => ⟨.inl hb, (d1 b (e2 b hb)).2⟩, fun b hb => .inr hb⟩, fun b hb => ⟨(d1 b (e1 b hb).1).1, fun x => x.elim (e1 b hb).2 (d1 b (e1 b hb).1).2⟩, fun b hb => hb.elim (fun x => (d1 b (e2 b x)).1) (d2 b)⟩
theorem trg_meet {Z F : Nat → Prop} {w : World} {R : List Res} (hl : us.length = xs.length) (hH : HAll (.own D.t D.c v (xs.zip (told us o)) :: .kidsG D.ch xs us (holeG o) :: R) Z w F) : HAll (.trg D v xs us o :: R) Z w F := by
  obtain ⟨G1, E, g1, ⟨G2, F2, g2, h2, e1, e2⟩, d1, d2⟩ := hH
  exact ⟨fun b => G1 b ∨ G2 b, F2, ⟨hl, G1, G2, g1, g2, fun b hb => ⟨.inl hb, fun x => (d1 b hb).2 (e1 b x).1⟩, fun b hb => .inr hb⟩, h2, fun b hb => hb.elim (fun x => ⟨(d1 b x).1, fun y => (d1 b x).2 (e2 b y)⟩) (fun x => ⟨d2 b (e1 b x).1, (e1 b x).2⟩), fun b hb => d2 b (e2 b hb)⟩
theorem dTrg {op : Op} {av : AV} (hj : H[j]? = some (.trg D v xs us o)) (h : us.length = xs.length → S.D P n (.own D.t D.c v (xs.zip (told us o)) :: .kidsG D.ch xs us (holeG o) :: H.eraseIdx j) op ty fr av) : S.D P n H op ty fr av :=
  fun q ho hty w0 F0 Z0 w F Z tmps hn hi hf => dLess (fun hH => trg_part hH hj) (h (trg_at hi.res hj)) q ho hty w0 F0 Z0 w F Z tmps hn hi hf
theorem dLenG {y : Operand} (ht : P.underlying t = some (.slice e)) (hy : arg fr y = some (.sv v)) (hj : H[j]? = some (.trg D v xs us o)) : S.D P n H (.call ⟨.builtin .len, #[y], #[t]⟩) ty fr (Ai .i64 xs.length) :=
  dTrg hj fun hl => by
    have := dLenO (P := P) (n := n) (ty := ty) (j := 0) (H := .own D.t D.c v (xs.zip (told us o)) :: .kidsG D.ch xs us (holeG o) :: H.eraseIdx j) ht hy rfl
    rw [zip_lenG (told_len.trans hl)] at this; exact this
theorem dIxG {y z : Operand} {kd : IntKind} {i : Int} (ht : P.underlying t = some (.slice e)) (hsz : SizeIs P e D.c.sz) (hy : arg fr y = some (.sv v)) (hj : H[j]? = some (.trg D v xs us o)) (hz : arg fr z = some (Ai kd i)) (h0 : 0 ≤ i) (h1 : i < xs.length) : S.D P n H (.indexAddr t y z) ty fr (.ep v (i.toNat * D.c.sz)) :=
  dTrg hj fun hl => dIxO (j := 0) ht hsz hy rfl hz h0 (by rw [zip_lenG (told_len.trans hl)]; exact h1)
theorem rd_told {G : Type} [Inhabited G] {us : List G} {i : Int} {u : G} (h0 : 0 ≤ i) (h1 : i < us.length) : rd (told us (some (i, u))) i = u := by
  have : i.toNat < us.length := by omega
  simp [rd, told, List.getD_eq_getElem?_getD, this]
theorem dLdG [Inhabited T] [Inhabited D.G] {y : Operand} {m off : Nat} {a : AV} (i : Int) (hg : IsAgg P t false) (hy : arg fr y = some (.ep v m)) (hj : H[j]? = some (.trg D v xs us none)) (hm : m = i.toNat * D.c.sz + off) (h0 : 0 ≤ i) (h1 : i < xs.length) (ha : (D.c.e (rd xs i, rd us i))[off]? = some a) : S.D P n H (.load t y) ty fr a :=
  dTrg hj fun hl => dLdO (j := 0) i hg hy rfl hm h0 (by rw [zip_lenG (told_len.trans hl)]; exact h1) (by rw [rd_zipG (told_len.trans hl) h0 h1]; exact ha)
theorem dLdGh [Inhabited T] [Inhabited D.G] {y : Operand} {m off : Nat} {a : AV} {i : Int} {u : D.G} (hg : IsAgg P t false) (hy : arg fr y = some (.ep v m)) (hj : H[j]? = some (.trg D v xs us (some (i, u)))) (hm : m = i.toNat * D.c.sz + off) (h0 : 0 ≤ i) (h1 : i < xs.length) (ha : (D.c.e (rd xs i, u))[off]? = some a) : S.D P n H (.load t y) ty fr a :=
  dTrg hj fun hl => dLdO (j := 0) i hg hy rfl hm h0 (by rw [zip_lenG (told_len.trans hl)]; exact h1) (by rw [rd_zipG (told_len.trans hl) h0 h1, rd_told h0 (by omega)]; exact ha)
theorem dLdGA [Inhabited T] [Inhabited D.G] {y : Operand} {m off q : Nat} (i : Int) (hg : IsAgg P t true) (hs : SizeIs P t q) (hy : arg fr y = some (.ep v m)) (hj : H[j]? = some (.trg D v xs us none)) (hm : m = i.toNat * D.c.sz + off) (h0 : 0 ≤ i) (h1 : i < xs.length) (hq : off + q ≤ D.c.sz) : S.D P n H (.load t y) ty fr (.agg (((D.c.e (rd xs i, rd us i)).drop off).take q)) :=
  dTrg hj fun hl => by
    have := dLdOA (P := P) (n := n) (ty := ty) (j := 0) (c := D.c) (H := .own D.t D.c v (xs.zip (told us none)) :: .kidsG D.ch xs us (holeG (G := D.G) none) :: H.eraseIdx j) i hg hs hy rfl hm h0 (by rw [zip_lenG (told_len.trans hl)]; exact h1) hq
    rw [rd_zipG (told_len.trans hl) h0 h1] at this; exact this
theorem rd_at {G : Type} [Inhabited G] {us : List G} {i : Int} (h0 : 0 ≤ i) (h1 : i < us.length) : us[i.toNat]? = some (rd us i) := rd_get h0 h1
/-- A quiet operation on what is owned below an element. -/
theorem dKid [Inhabited T] [Inhabited D.G] {i : Int} {op : Op} {av : AV} (hj : H[j]? = some (.trg D v xs us none)) (h0 : 0 ≤ i) (h1 : i < xs.length) (h : S.D P n (D.ch (rd xs i) (rd us i)) op ty fr av) : S.D P n H op ty fr av := by
  refine dLess (fun {Z F w} hH => ?_) h
  obtain ⟨F1, ⟨hl, G1, G2, _, ⟨Fs, k1, k2, _⟩, _, e2⟩, hF⟩ := hH.at hj
  exact (k1 _ _ _ (rd_get h0 h1) (rd_at h0 (by omega)) (by simp [holeG])).wide fun b hb => hF b (e2 b (k2 _ b hb))

/-! ### Opened and closed -/
theorem kids_take {ch : T → D.G → List Res} {i : Nat} {y : T} {u : D.G} {Z F : Nat → Prop} {w : World} (h : (Res.kidsG ch xs us none).h Z w F) (hy : xs[i]? = some y) (hu : us[i]? = some u) : ∃ F1 F2 : Nat → Prop, HAll (ch y u) Z w F1 ∧ (Res.kidsG ch xs us (some i)).h Z w F2 ∧ (∀ b, F1 b → F b ∧ ¬ F2 b) ∧ ∀ b, F2 b → F b := by
  obtain ⟨Fs, k1, k2, k3⟩ := h
  refine ⟨Fs i, fun b => F b ∧ ¬ Fs i b, k1 i y u hy hu (by simp), ⟨fun k b => k ≠ i ∧ Fs k b, fun k x u2 hx hu2 ho => ?_, fun k b hb => ⟨k2 k b hb.2, fun y => hb.1 (k3 k _ b hb.2 y)⟩, fun k k' b hb hb' => k3 k k' b hb.2 hb'.2⟩, fun b hb => ⟨k2 _ b hb, fun z => z.2 hb⟩, fun b hb => hb.1⟩
  have e : k ≠ i := fun e => ho (by rw [e])
  have e2 : (fun b => k ≠ i ∧ Fs k b) = Fs k := by funext b; simp [e]
  show HAll (ch x u2) Z w (fun b => k ≠ i ∧ Fs k b)
  rw [e2]; exact k1 k x u2 hx hu2 (by simp)
theorem kids_give {ch : T → D.G → List Res} {i : Nat} {y' : T} {u' : D.G} {Z F1 F2 : Nat → Prop} {w : World} (hi : i < xs.length) (hl : us.length = xs.length) (h1 : HAll (ch y' u') Z w F1) (h : (Res.kidsG ch xs us (some i)).h Z w F2) (hd : ∀ b, F1 b → ¬ F2 b) : (Res.kidsG ch (xs.set i y') (us.set i u') none).h Z w fun b => F1 b ∨ F2 b := by
  obtain ⟨Fs, k1, k2, k3⟩ := h
  refine ⟨fun k b => (k ≠ i ∧ Fs k b) ∨ (k = i ∧ F1 b), fun k z u2 hz hu2 _ => ?_, fun k b hb => hb.elim (fun y => .inr (k2 k b y.2)) (fun y => .inl y.2), fun k k' b hb hb' => ?_⟩
  · by_cases e : k = i
    · subst e
      rw [List.getElem?_set_self hi] at hz; cases hz
      rw [List.getElem?_set_self (by omega)] at hu2; cases hu2
      have e2 : (fun b => (k ≠ k ∧ Fs k b) ∨ (k = k ∧ F1 b)) = F1 := by funext b; simp
      show HAll (ch y' u') Z w (fun b => (k ≠ k ∧ Fs k b) ∨ (k = k ∧ F1 b))
      rw [e2]; exact h1
    · rw [List.getElem?_set, if_neg (Ne.symm e)] at hz hu2
      have e2 : (fun b => (k ≠ i ∧ Fs k b) ∨ (k = i ∧ F1 b)) = Fs k := by funext b; simp [e]
      show HAll (ch z u2) Z w (fun b => (k ≠ i ∧ Fs k b) ∨ (k = i ∧ F1 b))
      rw [e2]; exact k1 k z u2 hz hu2 (by simp [Ne.symm e])
  · rcases hb with ⟨a1, a2⟩ | ⟨a1, a2⟩ <;> rcases hb' with ⟨b1, b2⟩ | ⟨b1, b2⟩
    · exact k3 k k' b a2 b2
    · exact (hd b b2 (k2 k b a2)).elim
    · exact (hd b a2 (k2 k' b b2)).elim
    · rw [a1, b1]
/-- A tree is opened at a place: what is owned below it there stands by itself. -/
theorem sOpenG [Inhabited T] [Inhabited D.G] {todo : List Item} (j : Nat) (i : Int) (hj : H[j]? = some (.trg D v xs us none)) (h0 : 0 ≤ i) (h1 : i < xs.length) (h : Sim P f n todo fr (.trg D v xs us (some (i, rd us i)) :: (D.ch (rd xs i) (rd us i) ++ H.eraseIdx j)) x X K) : Sim P f n todo fr H x X K := by
  refine sLess (fun {Z F w} hH => ?_) h
  obtain ⟨F1, F2, ⟨hl, G1, G2, g1, g2, e1, e2⟩, h2, d1, d2⟩ := hH.take hj
  obtain ⟨E1, E2, k1, k2, c1, c2⟩ := kids_take g2 (rd_get h0 h1) (rd_at h0 (by omega))
  refine ⟨fun b => G1 b ∨ E2 b, fun b => E1 b ∨ F2 b, ⟨hl, G1, E2, by simp only [told]; rw [set_rd h0 (by omega)]; exact g1, k2, fun b hb => ⟨.inl hb, fun y => (e1 b hb).2 (c2 b y)⟩, fun b hb => .inr hb⟩, k1.append h2 fun b hb y => (d1 b (e2 b (c1 b hb).1)).2 y, fun b hb => ?_, fun b hb => hb.elim (fun y => (d1 b (e2 b (c1 b y).1)).1) (d2 b)⟩
  rcases hb with hb | hb
  · exact ⟨(d1 b (e1 b hb).1).1, fun y => y.elim (fun y => (e1 b hb).2 (c1 b y).1) (d1 b (e1 b hb).1).2⟩
  · exact ⟨(d1 b (e2 b (c2 b hb))).1, fun y => y.elim (fun y => (c1 b y).2 hb) (d1 b (e2 b (c2 b hb))).2⟩
/-- And closed again, with what stands below it now. -/
theorem sCloseG [Inhabited T] [Inhabited D.G] {todo : List Item} {R : List Res} {i : Int} {u : D.G} (j : Nat) (js : List Nat) (x' : T) (u' : D.G) (hj : H[j]? = some (.trg D v xs us (some (i, u)))) (hp : S.pk (H.eraseIdx j) js = some (D.ch x' u', R)) (h0 : 0 ≤ i) (h1 : i < xs.length) (hx' : D.c.e (x', u') = D.c.e (rd xs i, u)) (h : Sim P f n todo fr (.trg D v (xs.set i.toNat x') (us.set i.toNat u') none :: R) x X K) : Sim P f n todo fr H x X K := by
  refine sLess (fun {Z F w} hH => ?_) h
  obtain ⟨F1, F2, ⟨hl, G1, G2, g1, g2, e1, e2⟩, h2, d1, d2⟩ := hH.take hj
  obtain ⟨E1, E2, k1, k2, c1, c2⟩ := HAll.pk hp h2
  have hil : i.toNat < xs.length := by omega
  refine ⟨fun b => G1 b ∨ (E1 b ∨ G2 b), E2, ⟨by simpa using hl, G1, fun b => E1 b ∨ G2 b, own_congr g1 (by simp [hl, told]) (fun k z z' hz hz' => ?_), kids_give hil hl k1 g2 (fun b hb y => (d1 b (e2 b y)).2 (c1 b hb).1), fun b hb => ⟨.inl hb, fun y => y.elim (fun y => (d1 b (e1 b hb).1).2 (c1 b y).1) (e1 b hb).2⟩, fun b hb => .inr hb⟩, k2, fun b hb => ?_, fun b hb => d2 b (c2 b hb)⟩
  · have hz2 : (xs.zip (told us (some (i, u)))).set i.toNat (x', u') = (xs.set i.toNat x').zip (us.set i.toNat u') := by rw [zip_setG]; simp [told]
    rw [show told (us.set i.toNat u') none = us.set i.toNat u' from rfl, ← hz2, List.getElem?_set] at hz'
    by_cases e : i.toNat = k
    · subst e
      rw [if_pos rfl, if_pos (by rw [zip_lenG (told_len.trans hl)]; exact hil)] at hz'
      have hz3 := rd_get (xs := xs.zip (told us (some (i, u)))) h0 (by rw [zip_lenG (told_len.trans hl)]; exact h1)
      rw [hz] at hz3
      rw [← Option.some.inj hz', Option.some.inj hz3, rd_zipG (told_len.trans hl) h0 h1, rd_told h0 (by omega)]; exact hx'
    · rw [if_neg e, hz] at hz'; rw [Option.some.inj hz']
  · rcases hb with hb | hb | hb
    · exact ⟨(d1 b (e1 b hb).1).1, fun y => (d1 b (e1 b hb).1).2 (c2 b y)⟩
    · exact ⟨d2 b (c1 b hb).1, (c1 b hb).2⟩
    · exact ⟨(d1 b (e2 b hb)).1, fun y => (d1 b (e2 b hb)).2 (c2 b y)⟩
/-- Closed with its headers as they were. -/
theorem sCloseG1 [Inhabited T] [Inhabited D.G] {todo : List Item} {R : List Res} {i : Int} (j : Nat) (js : List Nat) (x' : T) (hj : H[j]? = some (.trg D v xs us (some (i, rd us i)))) (hp : S.pk (H.eraseIdx j) js = some (D.ch x' (rd us i), R)) (h0 : 0 ≤ i) (h1 : i < xs.length) (hx' : D.c.e (x', rd us i) = D.c.e (rd xs i, rd us i)) (h : Sim P f n todo fr (.trg D v (xs.set i.toNat x') us none :: R) x X K) : Sim P f n todo fr H x X K := by
  intro r hr w0 F0 Z0 w F Z tmps hn hi hf
  have hl := trg_at hi.res hj
  have e := set_rd (xs := us) h0 (by omega)
  exact sCloseG j js x' (rd us i) hj hp h0 h1 hx' (by rw [e]; exact h) r hr w0 F0 Z0 w F Z tmps hn hi hf
theorem sOpenGL [Inhabited T] [Inhabited D.G] (j : Nat) (i : Int) (hj : H[j]? = some (.trg D v xs us none)) (h0 : 0 ≤ i) (h1 : i < xs.length) (h : SimL P f n ops l k fr (.trg D v xs us (some (i, rd us i)) :: (D.ch (rd xs i) (rd us i) ++ H.eraseIdx j)) x X K) : SimL P f n ops l k fr H x X K := fun is hs => sOpenG j i hj h0 h1 (h is hs)
theorem sCloseGL [Inhabited T] [Inhabited D.G] {R : List Res} {i : Int} {u : D.G} (j : Nat) (js : List Nat) (x' : T) (u' : D.G) (hj : H[j]? = some (.trg D v xs us (some (i, u)))) (hp : S.pk (H.eraseIdx j) js = some (D.ch x' u', R)) (h0 : 0 ≤ i) (h1 : i < xs.length) (hx' : D.c.e (x', u') = D.c.e (rd xs i, u)) (h : SimL P f n ops l k fr (.trg D v (xs.set i.toNat x') (us.set i.toNat u') none :: R) x X K) : SimL P f n ops l k fr H x X K := fun is hs => sCloseG j js x' u' hj hp h0 h1 hx' (h is hs)
theorem sCloseG1L [Inhabited T] [Inhabited D.G] {R : List Res} {i : Int} (j : Nat) (js : List Nat) (x' : T) (hj : H[j]? = some (.trg D v xs us (some (i, rd us i)))) (hp : S.pk (H.eraseIdx j) js = some (D.ch x' (rd us i), R)) (h0 : 0 ≤ i) (h1 : i < xs.length) (hx' : D.c.e (x', rd us i) = D.c.e (rd xs i, rd us i)) (h : SimL P f n ops l k fr (.trg D v (xs.set i.toNat x') us none :: R) x X K) : SimL P f n ops l k fr H x X K := fun is hs => sCloseG1 j js x' hj hp h0 h1 hx' (h is hs)

/-- A header's cell is written, where the tree is opened. -/
theorem sStGh [Inhabited T] [Inhabited D.G] {y u : Operand} {m off q : Nat} {bs : List AV} {a : AV} {i : Int} {u0 : D.G} (u' : D.G) (hs : SizeIs P t q) (hy : arg fr y = some (.ep v m)) (hj : H[j]? = some (.trg D v xs us (some (i, u0)))) (hm : m = i.toNat * D.c.sz + off) (h0 : 0 ≤ i) (h1 : i < xs.length) (hu : arg fr u = some a) (hc : CellsOf a bs) (ho1 : OneL bs) (hq : bs.length = q) (hql : off + q ≤ D.c.sz)
    (hx' : D.c.e (rd xs i, u') = splice (D.c.e (rd xs i, u0)) off bs) (h : SimL P f n ops l k fr (.trg D v xs us (some (i, u')) :: H.eraseIdx j) x X K) : SimL P f n ops (⟨none, .store t y u, ty, pos, aft, none⟩ :: l) k fr H x X K := by
  intro is hi r hr w0 F0 Z0 w F Z tmps hn hI hf
  have hl := trg_at hI.res hj
  refine sLess (fun hH => trg_part hH hj) (sStO (j := 0) i (rd xs i, u') hs hy rfl hm h0 (by rw [zip_lenG (told_len.trans hl)]; exact h1) hu hc ho1 hq hql (by rw [rd_zipG (told_len.trans hl) h0 h1, rd_told h0 (by omega)]; exact hx') (fun is2 hi2 => ?_) is hi) r hr w0 F0 Z0 w F Z tmps hn hI hf
  simp only [List.set_cons_zero]
  rw [zip_setG, set_rd h0 h1, show (told us (some (i, u0))).set i.toNat u' = told us (some (i, u')) by simp [told]]
  exact sLess (fun hH => trg_meet (o := some (i, u')) hl hH) (h is2 hi2)
theorem sFzUL (j : Nat) (hj : H[j]? = some (.trg D v xs us none)) (h : SimL P f n ops l k fr (H.set j (.fz D.q v xs)) x X K) : SimL P f n ops l k fr H x X K := fun is hs => sFzG j hj trg_fsl (h is hs)
theorem sFzU {todo : List Item} (j : Nat) (hj : H[j]? = some (.trg D v xs us none)) (h : Sim P f n todo fr (H.set j (.fz D.q v xs)) x X K) : Sim P f n todo fr H x X K := sFzG j hj trg_fsl h

/-! ### Made -/
def Res.kg (D : Tg T) (zs : List (T × D.G)) : Res := .kidsG D.ch (zs.map Prod.fst) (zs.map Prod.snd) none
theorem zip_fsG {A B : Type} : ∀ zs : List (A × B), (zs.map Prod.fst).zip (zs.map Prod.snd) = zs
  | [] => rfl
  | z :: zs => by simp [zip_fsG zs]
theorem sKg0 {todo : List Item} (D : Tg T) (h : Sim P f n todo fr (.kg D [] :: H) x X K) : Sim P f n todo fr H x X K :=
  sLess (H' := .kg D [] :: H) (fun {Z F w} hH => ⟨fun _ => False, F, ⟨fun _ _ => False, fun k x u hx => by simp at hx, fun _ _ x => x, fun _ _ _ x => x.elim⟩, hH, fun _ x => x.elim, fun _ x => x⟩) h
theorem sKg1 {todo : List Item} {D : Tg T} {zs : List (T × D.G)} {R : List Res} (js : List Nat) (y : T) (u : D.G) (hj0 : H[0]? = some (.kg D zs)) (hp : S.pk (H.eraseIdx 0) js = some (D.ch y u, R)) (h : Sim P f n todo fr (.kg D ((y, u) :: zs) :: R) x X K) : Sim P f n todo fr H x X K := by
  refine sLess (fun {Z F w} hH => ?_) h
  obtain ⟨F1, F2, ⟨Fs, k1, k2, k3⟩, h2, d1, d2⟩ := hH.take hj0
  obtain ⟨E1, E2, g1, g2, c1, c2⟩ := HAll.pk hp h2
  refine ⟨fun b => F1 b ∨ E1 b, E2, ⟨fun k => match k with | 0 => E1 | k + 1 => Fs k, fun k x u2 hx hu ho => ?_, fun k b hb => ?_, fun k k' b hb hb' => ?_⟩, g2, fun b hb => hb.elim (fun y => ⟨(d1 b y).1, fun z => (d1 b y).2 (c2 b z)⟩) (fun y => ⟨d2 b (c1 b y).1, (c1 b y).2⟩), fun b hb => d2 b (c2 b hb)⟩
  · cases k with
    | zero => simp at hx hu; subst hx hu; exact g1
    | succ k => simp at hx hu; exact k1 k x u2 (by simpa using hx) (by simpa using hu) (by simp)
  · cases k with
    | zero => exact .inr hb
    | succ k => exact .inl (k2 k b hb)
  · cases k <;> cases k'
    · rfl
    · exact ((d1 b (k2 _ b hb')).2 (c1 b hb).1).elim
    · exact ((d1 b (k2 _ b hb)).2 (c1 b hb').1).elim
    · rw [k3 _ _ b hb hb']
theorem sKg0L (D : Tg T) (h : SimL P f n ops l k fr (.kg D [] :: H) x X K) : SimL P f n ops l k fr H x X K := fun is hs => sKg0 D (h is hs)
theorem sKg1L {D : Tg T} {zs : List (T × D.G)} {R : List Res} (js : List Nat) (y : T) (u : D.G) (hj0 : H[0]? = some (.kg D zs)) (hp : S.pk (H.eraseIdx 0) js = some (D.ch y u, R)) (h : SimL P f n ops l k fr (.kg D ((y, u) :: zs) :: R) x X K) : SimL P f n ops l k fr H x X K := fun is hs => sKg1 js y u hj0 hp (h is hs)
/-- A tree without elements. -/
theorem sT0G {todo : List Item} (j : Nat) (D : Tg T) (hj : H[j]? = some (.own D.t D.c v ([] : List (T × D.G)))) (h : Sim P f n todo fr (H.set j (.trg D v [] [] none)) x X K) : Sim P f n todo fr H x X K :=
  sTurn (r' := .trg D v [] [] none) j hj (fun Z w F1 h1 => ⟨rfl, F1, fun _ => False, h1, ⟨fun _ _ => False, fun k x u hx => by simp at hx, fun _ _ x => x, fun _ _ _ x => x.elim⟩, fun b hb => ⟨hb, id⟩, fun _ x => x.elim⟩) h
theorem sT0GL (j : Nat) (D : Tg T) (hj : H[j]? = some (.own D.t D.c v ([] : List (T × D.G)))) (h : SimL P f n ops l k fr (H.set j (.trg D v [] [] none)) x X K) : SimL P f n ops l k fr H x X K := fun is hs => sT0G j D hj (h is hs)
/-- A tree whose elements hold nil. -/
theorem sTzG {todo : List Item} (j : Nat) (D : Tg T) {z : T} {u : D.G} {m : Nat} (hj : H[j]? = some (.own D.t D.c v (List.replicate m (z, u)))) (hz : ∀ Z w, HAll (D.ch z u) Z w (fun _ => False)) (h : Sim P f n todo fr (H.set j (.trg D v (List.replicate m z) (List.replicate m u) none)) x X K) : Sim P f n todo fr H x X K := by
  have e : ∀ m : Nat, (List.replicate m z).zip (List.replicate m u) = List.replicate m (z, u) := fun m => by
    induction m with
    | zero => rfl
    | succ m ih => simp [List.replicate_succ, ih]
  refine sTurn (r' := .trg D v (List.replicate m z) (List.replicate m u) none) j hj (fun Z w F1 h1 => ⟨by simp, F1, fun _ => False, by simp only [told]; rw [e]; exact h1, ⟨fun _ _ => False, fun k x u' hx hu _ => ?_, fun _ _ x => x, fun _ _ _ x => x.elim⟩, fun b hb => ⟨hb, id⟩, fun _ x => x.elim⟩) h
  have h1 := List.mem_of_getElem? hx; have h2 := List.mem_of_getElem? hu
  rw [List.mem_replicate] at h1 h2
  rw [h1.2, h2.2]; exact hz Z w
theorem sTzGL (j : Nat) (D : Tg T) {z : T} {u : D.G} {m : Nat} (hj : H[j]? = some (.own D.t D.c v (List.replicate m (z, u)))) (hz : ∀ Z w, HAll (D.ch z u) Z w (fun _ => False)) (h : SimL P f n ops l k fr (H.set j (.trg D v (List.replicate m z) (List.replicate m u) none)) x X K) : SimL P f n ops l k fr H x X K := fun is hs => sTzG j D hj hz (h is hs)
theorem trg_nil {Z F : Nat → Prop} {w : World} : (Res.trg D (.slice none 0 0) [] [] none).h Z w F := ⟨rfl, fun _ => False, fun _ => False, own_nil, ⟨fun _ _ => False, fun k x u hx => by simp at hx, fun _ _ x => x, fun _ _ _ x => x.elim⟩, fun _ x => x.elim, fun _ x => x.elim⟩

/-- Elements with what is owned below them are put to a tree. -/
theorem sApG {y u : Operand} {zs : List (T × D.G)} {z : Value} {bytes : Nat} (j : Nat) (hj0 : H[0]? = some (.kg D zs)) (hj : (H.eraseIdx 0)[j]? = some (.trg D v xs us none)) (ht : P.underlying t = some (.slice D.t)) (hinfo : Info P D.t z D.c.sz bytes) (hzs : z.cells.size = D.c.sz) (hy : arg fr y = some (.sv v)) (hu : arg fr u = some (.fsl D.c zs)) (hb : (xs.length + zs.length) * bytes ≤ 140737488355328) (hb0 : Nat.blt 0 bytes = true) (hdn : Nat.blt d n = true)
    (h : ∀ v', SimL P f n ops l k ((d, .sv v') :: fr) (.trg D v' (xs ++ zs.map Prod.fst) (us ++ zs.map Prod.snd) none :: (H.eraseIdx 0).eraseIdx j) x X K) : SimL P f n ops (⟨some d, .call ⟨.builtin .append, #[y, u], #[t, t]⟩, ty, pos, aft, none⟩ :: l) k fr H x X K := by
  intro is hi r hr w0 F0 Z0 w F Z tmps hn hI hf
  obtain ⟨H1, rfl⟩ : ∃ H1, H = .kg D zs :: H1 := by
    cases H with
    | nil => simp at hj0
    | cons a H1 => simp at hj0; exact ⟨H1, by rw [hj0]⟩
  simp only [List.eraseIdx_cons_zero] at hj h
  have hj' : (Res.kg D zs :: H1)[j + 1]? = some (.trg D v xs us none) := by simpa using hj
  have hl := trg_at hI.res hj'
  refine sLess (H' := .own D.t D.c v (xs.zip us) :: .kidsG D.ch xs us none :: (Res.kg D zs :: H1).eraseIdx (j + 1)) (fun hH => trg_part hH hj') (sAp (j := 0) (xs := xs.zip us) ht hinfo hzs hy rfl hu (by rw [zip_lenG hl]; exact hb) hb0 hdn (fun v' is2 hi2 => ?_) is hi) r hr w0 F0 Z0 w F Z tmps hn hI hf
  simp only [List.set_cons_zero, List.eraseIdx_cons_succ]
  refine sMeet (r := .kidsG D.ch (xs ++ zs.map Prod.fst) (us ++ zs.map Prod.snd) none) 1 1 rfl rfl (fun Z w G1 G2 hd ⟨Fs, a1, a2, a3⟩ ⟨Es, b1, b2, b3⟩ => ?_) ?_
  · refine ⟨fun k => if k < xs.length then Fs k else Es (k - xs.length), fun k q u2 hq hu2 ho => ?_, fun k b hb => ?_, fun k k' b hb hb' => ?_⟩
    · by_cases hk : k < xs.length
      · rw [List.getElem?_append_left hk] at hq
        rw [List.getElem?_append_left (by omega)] at hu2
        show HAll (D.ch q u2) Z w (if k < xs.length then Fs k else Es (k - xs.length))
        rw [if_pos hk]; exact a1 k q u2 hq hu2 (by simp)
      · rw [List.getElem?_append_right (by omega)] at hq
        rw [List.getElem?_append_right (by omega), hl] at hu2
        show HAll (D.ch q u2) Z w (if k < xs.length then Fs k else Es (k - xs.length))
        rw [if_neg hk]; exact b1 _ q u2 hq hu2 (by simp)
    · simp only at hb
      split at hb
      · exact .inl (a2 _ b hb)
      · exact .inr (b2 _ b hb)
    · simp only at hb hb'
      split at hb <;> split at hb'
      · exact a3 _ _ b hb hb'
      · exact (hd b (a2 _ b hb) (b2 _ b hb')).elim
      · exact (hd b (a2 _ b hb') (b2 _ b hb)).elim
      · have := b3 _ _ b hb hb'; omega
  · have e : xs.zip us ++ zs = (xs ++ zs.map Prod.fst).zip (us ++ zs.map Prod.snd) := by
      rw [List.zip_append hl.symm, zip_fsG]
    simp only [e]
    have hrep : pickR (H1.eraseIdx j) (List.replicate (H1.eraseIdx j).length 0) = H1.eraseIdx j := by
      induction H1.eraseIdx j with
      | nil => rfl
      | cons a L ih => simp only [List.length_cons, List.replicate_succ]; show a :: pickR L _ = _; rw [ih]
    refine sPk (H' := .own D.t D.c v' ((xs ++ zs.map Prod.fst).zip (us ++ zs.map Prod.snd)) :: .kidsG D.ch (xs ++ zs.map Prod.fst) (us ++ zs.map Prod.snd) none :: H1.eraseIdx j) (1 :: 0 :: List.replicate (H1.eraseIdx j).length 0) ?_ (sLess (fun hH => trg_meet (o := none) (by simp [hl]) hH) (h v' is2 hi2))
    show _ :: _ :: pickR (H1.eraseIdx j) (List.replicate (H1.eraseIdx j).length 0) = _
    rw [hrep]

theorem dIxAb {x y : Operand} {kd : IntKind} {i : Int} {m : Nat} (xs : List Bool) (ht : P.underlying t = some (.array m e)) (hs : SizeIs P e 1) (hg : IsAgg P e false) (hm : xs.length = m) (hx : arg fr x = some (.agg (xs.map fun a => Ab a))) (hy : arg fr y = some (Ai kd i)) (h0 : 0 ≤ i) (h1 : i < xs.length) : S.D P n H (.index t x y) ty fr (Ab (rd xs i)) :=
  .of fun o ho hty w Z F ρ _ hf => by
    obtain ⟨vs, e1, hv⟩ := hf (by simp [Op.operands]) hx
    have e2 : ρ y = _ := hf (by simp [Op.operands]) hy
    have hg2 : (xs.map fun a => Ab a)[i.toNat]? = some (Ab (rd xs i)) := by rw [List.getElem?_map, rd_get h0 h1]; rfl
    obtain ⟨v, hv1, hv2⟩ := hv.get hg2
    have hv3 : v = .bool (rd xs i) := hv2
    subst hv3
    have hp := part_one (P := P) (w := w) hg hv1
    have h1' : i < (m : Int) := by omega
    exact ⟨_, by simp [execOp, ho, e1, e2, Instr.index, run_underlying ht, Sem.run_bind, asIntOf, h0, h1', hs w, hp], rfl⟩
theorem sNilBL {T : Type} {c : Co T} (j i : Nat) (e : TypeId) {b : Nat} {az : List AV} (hj : H[j]? = some (.box b az)) (hu : az[i]? = some (.lit (.slice none 0 0))) (h : ∀ v, SimL P f n ops l k fr (.own e c v [] :: H.set j (.box b (az.set i (.sv v)))) x X K) : SimL P f n ops l k fr H x X K := fun is hs => sNilB j i e hj hu fun v => h v is hs
/-! ### Lending -/
theorem lendG {D : Tg T} {v : Value} {xs : List T} {us : List D.G} (j : Nat) (hj : H[j]? = some (.trg D v xs us none)) {Z F : Nat → Prop} {w : World} {u : Value} (hH : HAll H Z w F) (hp : (AV.sv v).p Z w u) : (AV.fsl D.q xs).p (fun b => Z b ∨ F b) w u := by
  obtain ⟨F1, g1, hF⟩ := hH.at hj
  rw [hp.1]; exact AV.st _ (fun b hb => hb.imp id (hF b)) (Keep.refl _ _) (trg_fsl g1)
theorem flTrg (h : ∀ x, FlatL (D.c.e x)) (hk : ∀ x u, FlatRs (D.ch x u)) : FlatR (.trg D v xs us o) := fun Z Z' w F ⟨hl, F1, F2, h3, ⟨Fs, k1, k2, k3⟩, d1, d2⟩ => ⟨hl, F1, F2, flOwn h Z Z' w F1 h3, ⟨Fs, fun k x u hx hu ho => (k1 k x u hx hu ho).flat (hk x u), k2, k3⟩, d1, d2⟩
end
end S
end Go.Proofs.Ytpjhcllohagjoaa
