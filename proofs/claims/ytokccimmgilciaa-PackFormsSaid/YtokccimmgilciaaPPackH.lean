/-
  There and back: a proof's bytes are read as that proof, and what is read has those bytes. Own work; no claim stands here.
-/
import Derived.Test.YtokccimmgilciaaPPackG
namespace Go.Proofs.Ytokccimmgilciaa
open S
set_option linter.unusedVariables false
set_option linter.unusedSimpArgs false
set_option maxRecDepth 100000

theorem pnum1_back {x : Int} (h : F1 x) (R : List Int) : pnum 1 (B1 x ++ R) = some (x, R) := by
  simp [pnum, B1, val1]
theorem pnum2_back {x : Int} (h : F2 x) (R : List Int) : pnum 2 (B2 x ++ R) = some (x, R) := by
  have e : x / 256 * 256 + x % 256 = x := by omega
  simp only [pnum, B2, List.cons_append, List.nil_append, List.length_cons, List.take_succ_cons, List.take_zero, List.drop_succ_cons, List.drop_zero, val2, e]
  rw [if_neg (by omega)]
theorem pnum4_back {x : Int} (h : F4 x) (R : List Int) : pnum 4 (B4 x ++ R) = some (x, R) := by
  obtain ⟨h0, h1⟩ := h
  have e : ((x / 16777216 * 256 + x / 65536 % 256) * 256 + x / 256 % 256) * 256 + x % 256 = x := by omega
  simp only [pnum, B4, List.cons_append, List.nil_append, List.length_cons, List.take_succ_cons, List.take_zero, List.drop_succ_cons, List.drop_zero, val4, e]
  rw [if_neg (by omega)]
theorem pmany_back {T : Type} {p : List Int → Option (T × List Int)} {enc : T → List Int} : ∀ (xs : List T) (R : List Int), (∀ x ∈ xs, ∀ R, p (enc x ++ R) = some (x, R)) → pmany p xs.length ((xs.map enc).flatten ++ R) = some (xs, R) := by
  intro xs
  induction xs with
  | nil => intro R _; rfl
  | cons x xs ih =>
    intro R h
    simp only [List.length_cons, List.map_cons, List.flatten_cons, List.append_assoc, pmany]
    rw [h x (List.mem_cons_self ..), Option.bind_some, ih R fun y hy => h y (List.mem_cons_of_mem _ hy)]
    rfl
theorem ppick_back {p : Pick} (h : pickOk p) (R : List Int) : ppick (pickB p ++ R) = some (p, R) := by
  obtain ⟨h1, h2, h3, h4⟩ := h
  unfold ppick pickB
  simp only [List.append_assoc]
  rw [pnum2_back h1, Option.bind_some, pnum1_back h2, Option.bind_some, pnum1_back h3, Option.bind_some]
  simp only [Int.toNat_natCast]
  unfold kidsB
  rw [pmany_back p.Kids R fun k hk R => pnum4_back (h4 k hk) R]
  rfl
theorem pnode_back {x : Node} (h : nodeOk x) (R : List Int) : pnode (nodeB x ++ R) = some (x, R) := by
  obtain ⟨h0, ⟨b1, b2, b3, b4, b5, b6, b7, b8, b9⟩, h3⟩ := h
  unfold pnode nodeB headB
  simp only [List.append_assoc]
  rw [pnum1_back (bit_F x.Sign), Option.bind_some, pnum1_back b1, Option.bind_some, pnum2_back b2, Option.bind_some, pnum2_back b3, Option.bind_some, pnum1_back b4, Option.bind_some, pnum1_back b5, Option.bind_some, pnum1_back b6, Option.bind_some, pnum1_back b7, Option.bind_some, pnum4_back b8, Option.bind_some, pnum2_back b9, Option.bind_some]
  simp only [Int.toNat_natCast]
  unfold picksB
  rw [pmany_back x.Picks R fun p hp R => ppick_back (h3 p hp) R]
  simp only [Option.bind_some]
  have hs : sg (if x.Sign = true then 1 else 0) = x.Sign := by cases x.Sign <;> rfl
  have hle : (if x.Sign = true then (1 : Int) else 0) ≤ 1 := by split <;> omega
  rw [hs]
  have hT : nodeT (if x.Sign = true then 1 else 0) x = true := by unfold nodeT; rw [decide_eq_true]; exact ⟨hle, h0⟩
  rw [show (⟨x.Sign, x.Kind, x.Name, ⟨x.Place.Rule, x.Place.Conj, x.Place.Pos⟩, x.I, x.J, x.Rank, x.Picks⟩ : Node) = x from rfl, hT]
  rfl
theorem pcert_back {c : Cert} (h : certOk c) (hn : c.Nodes.length ≤ 65536) (R : List Int) : pcert (certB c ++ R) = some (c, R) := by
  obtain ⟨h1, h2⟩ := h
  unfold pcert certB
  have e : ([84, 67] ++ (B4 c.Root ++ (B4 (c.Nodes.length : Int) ++ nodesB c.Nodes)) ++ R).take 2 = [84, 67] := rfl
  rw [if_pos e]
  have e2 : ([84, 67] ++ (B4 c.Root ++ (B4 (c.Nodes.length : Int) ++ nodesB c.Nodes)) ++ R).drop 2 = B4 c.Root ++ (B4 (c.Nodes.length : Int) ++ (nodesB c.Nodes ++ R)) := by simp
  rw [e2, pnum4_back h1, Option.bind_some, pnum4_back ⟨by omega, by omega⟩, Option.bind_some]
  simp only [Int.toNat_natCast]
  rw [decide_eq_true (by omega), cond_true]
  unfold nodesB
  rw [pmany_back c.Nodes R fun x hx R => pnode_back (h2 x hx) R]
  rfl

/-! ### Back -/
theorem pnum_inv {n : Nat} {L : List Int} {a : Int × List Int} (hb : Byt L) (h : pnum n L = some a) : ∃ bs, bs.length = n ∧ Byt bs ∧ L = bs ++ a.2 ∧ a.1 = val bs ∧ Byt a.2 := by
  unfold pnum at h
  split at h
  · cases h
  · cases h
    exact ⟨L.take n, by rw [List.length_take]; omega, byt_take hb n, (List.take_append_drop n L).symm, rfl, byt_drop hb n⟩
theorem pnum1_inv {L : List Int} {a : Int × List Int} (hb : Byt L) (h : pnum 1 L = some a) : F1 a.1 ∧ L = B1 a.1 ++ a.2 ∧ Byt a.2 := by
  obtain ⟨bs, h1, h2, h3, h4, h5⟩ := pnum_inv hb h
  match bs, h1 with
  | [x], _ =>
    rw [val1] at h4
    obtain ⟨g0, g1⟩ := h2 x (by simp)
    exact ⟨by rw [h4]; exact ⟨g0, g1⟩, by rw [h3, h4]; rfl, h5⟩
theorem pnum2_inv {L : List Int} {a : Int × List Int} (hb : Byt L) (h : pnum 2 L = some a) : F2 a.1 ∧ L = B2 a.1 ++ a.2 ∧ Byt a.2 := by
  obtain ⟨bs, h1, h2, h3, h4, h5⟩ := pnum_inv hb h
  match bs, h1 with
  | [x, y], _ =>
    rw [val2] at h4
    obtain ⟨g0, g1⟩ := h2 x (by simp)
    obtain ⟨k0, k1⟩ := h2 y (by simp)
    refine ⟨by rw [h4]; exact ⟨by omega, by omega⟩, ?_, h5⟩
    have e1 : a.1 / 256 = x := by omega
    have e2 : a.1 % 256 = y := by omega
    rw [h3, B2, e1, e2]
theorem pnum4_inv {L : List Int} {a : Int × List Int} (hb : Byt L) (h : pnum 4 L = some a) : F4 a.1 ∧ L = B4 a.1 ++ a.2 ∧ Byt a.2 := by
  obtain ⟨bs, h1, h2, h3, h4, h5⟩ := pnum_inv hb h
  match bs, h1 with
  | [x, y, z, t], _ =>
    rw [val4] at h4
    obtain ⟨g0, g1⟩ := h2 x (by simp)
    obtain ⟨k0, k1⟩ := h2 y (by simp)
    obtain ⟨l0, l1⟩ := h2 z (by simp)
    obtain ⟨m0, m1⟩ := h2 t (by simp)
    refine ⟨by rw [h4]; exact ⟨by omega, by omega⟩, ?_, h5⟩
    have e1 : a.1 / 16777216 = x := by omega
    have e2 : a.1 / 65536 % 256 = y := by omega
    have e3 : a.1 / 256 % 256 = z := by omega
    have e4 : a.1 % 256 = t := by omega
    rw [h3, B4, e1, e2, e3, e4]
theorem bind_inv {α β : Type} {o : Option α} {f : α → Option β} {b : β} (h : o.bind f = some b) : ∃ a, o = some a ∧ f a = some b := by
  cases o with
  | none => cases h
  | some a => exact ⟨a, rfl, h⟩
theorem pmany_inv {T : Type} {p : List Int → Option (T × List Int)} {enc : T → List Int} {G : T → Prop} (hp : ∀ L a, Byt L → p L = some a → G a.1 ∧ L = enc a.1 ++ a.2 ∧ Byt a.2) : ∀ {n : Nat} {L : List Int} {a : List T × List Int}, Byt L → pmany p n L = some a → (∀ x ∈ a.1, G x) ∧ L = (a.1.map enc).flatten ++ a.2 ∧ Byt a.2 := by
  intro n
  induction n with
  | zero => intro L a hb h; simp [pmany] at h; subst h; exact ⟨by simp, by simp, hb⟩
  | succ n ih =>
    intro L a hb h
    rw [pmany] at h
    obtain ⟨c, h1, h⟩ := bind_inv h
    obtain ⟨d, h2, h⟩ := bind_inv h
    obtain ⟨g1, g2, g3⟩ := hp L c hb h1
    obtain ⟨k1, k2, k3⟩ := ih g3 h2
    cases h
    exact ⟨fun x hx => by rcases List.mem_cons.1 hx with rfl | hx; exact g1; exact k1 x hx, by simp only [List.map_cons, List.flatten_cons, List.append_assoc]; rw [← k2]; exact g2, k3⟩
theorem ppick_inv {L : List Int} {a : Pick × List Int} (hb : Byt L) (h : ppick L = some a) : pickOk a.1 ∧ L = pickB a.1 ++ a.2 ∧ Byt a.2 := by
  unfold ppick at h
  obtain ⟨q1, h1, h⟩ := bind_inv h
  obtain ⟨q2, h2, h⟩ := bind_inv h
  obtain ⟨q3, h3, h⟩ := bind_inv h
  obtain ⟨q4, h4, h⟩ := bind_inv h
  cases h
  obtain ⟨a1, a2, a3⟩ := pnum2_inv hb h1
  obtain ⟨b1, b2, b3⟩ := pnum1_inv a3 h2
  obtain ⟨c1, c2, c3⟩ := pnum1_inv b3 h3
  obtain ⟨d1, d2, d3⟩ := pmany_inv (G := F4) (enc := B4) (fun L a hb h => pnum4_inv hb h) c3 h4
  have hl := pmany_len h4
  have hlen : (q4.1.length : Int) = q3.1 := by have := c1.1; omega
  refine ⟨⟨a1, b1, by simp only; rw [hlen]; exact c1, d1⟩, ?_, d3⟩
  unfold pickB kidsB
  simp only [List.append_assoc]
  rw [hlen, ← d2, ← c2, ← b2]
  exact a2
theorem pnode_inv {L : List Int} {a : Node × List Int} (hb : Byt L) (h : pnode L = some a) : nodeOk a.1 ∧ L = nodeB a.1 ++ a.2 ∧ Byt a.2 := by
  unfold pnode at h
  obtain ⟨q1, h1, h⟩ := bind_inv h
  obtain ⟨q2, h2, h⟩ := bind_inv h
  obtain ⟨q3, h3, h⟩ := bind_inv h
  obtain ⟨q4, h4, h⟩ := bind_inv h
  obtain ⟨q5, h5, h⟩ := bind_inv h
  obtain ⟨q6, h6, h⟩ := bind_inv h
  obtain ⟨q7, h7, h⟩ := bind_inv h
  obtain ⟨q8, h8, h⟩ := bind_inv h
  obtain ⟨q9, h9, h⟩ := bind_inv h
  obtain ⟨q10, h10, h⟩ := bind_inv h
  obtain ⟨q11, h11, h⟩ := bind_inv h
  obtain ⟨a1, a2, a3⟩ := pnum1_inv hb h1
  obtain ⟨b1, b2, b3⟩ := pnum1_inv a3 h2
  obtain ⟨c1, c2, c3⟩ := pnum2_inv b3 h3
  obtain ⟨d1, d2, d3⟩ := pnum2_inv c3 h4
  obtain ⟨e1, e2, e3⟩ := pnum1_inv d3 h5
  obtain ⟨f1, f2, f3⟩ := pnum1_inv e3 h6
  obtain ⟨g1, g2, g3⟩ := pnum1_inv f3 h7
  obtain ⟨i1, i2, i3⟩ := pnum1_inv g3 h8
  obtain ⟨j1, j2, j3⟩ := pnum4_inv i3 h9
  obtain ⟨k1, k2, k3⟩ := pnum2_inv j3 h10
  obtain ⟨l1, l2, l3⟩ := pmany_inv (G := pickOk) (enc := pickB) (fun L a hb h => ppick_inv hb h) k3 h11
  have hl := pmany_len h11
  have hlen : (q11.1.length : Int) = q10.1 := by have := k1.1; omega
  cases hT : nodeT q1.1 ⟨sg q1.1, q2.1, q3.1, ⟨q4.1, q5.1, q6.1⟩, q7.1, q8.1, q9.1, q11.1⟩ with
  | false => rw [hT] at h; cases h
  | true =>
    rw [hT] at h
    cases h
    unfold nodeT at hT
    rw [decide_eq_true_eq] at hT
    have hsg : (if sg q1.1 = true then (1 : Int) else 0) = q1.1 := by
      have h0 := a1.1
      have h1 := hT.1
      unfold sg
      by_cases h : q1.1 = 1
      · rw [decide_eq_true h, if_pos rfl, h]
      · rw [decide_eq_false h, if_neg (by decide)]; omega
    refine ⟨⟨hT.2, ⟨b1, c1, d1, e1, f1, g1, i1, j1, by simp only; rw [hlen]; exact k1⟩, l1⟩, ?_, l3⟩
    unfold nodeB headB picksB
    simp only [List.append_assoc]
    rw [hsg, hlen, ← l2, ← k2, ← j2, ← i2, ← g2, ← f2, ← e2, ← d2, ← c2, ← b2]
    exact a2
theorem pcert_inv {L : List Int} {a : Cert × List Int} (hb : Byt L) (h : pcert L = some a) : certOk a.1 ∧ a.1.Nodes.length ≤ 65536 ∧ L = certB a.1 ++ a.2 := by
  unfold pcert at h
  split at h
  case isFalse => cases h
  rename_i hp
  obtain ⟨q1, h1, h⟩ := bind_inv h
  obtain ⟨q2, h2, h⟩ := bind_inv h
  obtain ⟨a1, a2, a3⟩ := pnum4_inv (byt_drop hb 2) h1
  obtain ⟨b1, b2, b3⟩ := pnum4_inv a3 h2
  by_cases hn : q2.1 ≤ 65536
  · rw [decide_eq_true hn, cond_true] at h
    obtain ⟨q3, h3, h⟩ := bind_inv h
    obtain ⟨c1, c2, c3⟩ := pmany_inv (G := nodeOk) (enc := nodeB) (fun L a hb h => pnode_inv hb h) b3 h3
    have hl := pmany_len h3
    have hlen : (q3.1.length : Int) = q2.1 := by have := b1.1; omega
    cases h
    refine ⟨⟨a1, c1⟩, by simp only; omega, ?_⟩
    unfold certB nodesB
    simp only [List.append_assoc]
    rw [hlen, ← c2, ← b2, ← a2, ← hp, List.take_append_drop]
  · rw [decide_eq_false hn] at h; cases h

/-- A proof that is written is read, and no other one is. -/
theorem getR_cert {L : List Int} (hb : Byt L) {c : Cert} (h : getR L = (c, 0)) : certOk c ∧ c.Nodes.length ≤ 65536 ∧ L = certB c ∧ L.length ≤ 1048576 := by
  unfold getR at h
  split at h
  · cases h
  · cases hp : pcert L with
    | none => rw [hp] at h; cases h
    | some a =>
      obtain ⟨c', R⟩ := a
      rw [hp] at h
      cases R with
      | cons x l => cases h
      | nil =>
        cases h
        obtain ⟨h1, h2, h3⟩ := pcert_inv hb hp
        exact ⟨h1, h2, by simpa using h3, by omega⟩
theorem getR_back {c : Cert} (h : certOk c) (hn : c.Nodes.length ≤ 65536) (hl : (certB c).length ≤ 1048576) : getR (certB c) = (c, 0) := by
  have := pcert_back h hn []
  rw [List.append_nil] at this
  unfold getR
  rw [if_neg (by omega), this]
theorem getR_no {L : List Int} (hb : Byt L) (h : ∀ c, certOk c → c.Nodes.length ≤ 65536 → L ≠ certB c) (hl : L.length ≤ 1048576) : getR L = (⟨0, []⟩, 1800) := by
  unfold getR
  rw [if_neg (by omega)]
  cases hp : pcert L with
  | none => rfl
  | some a =>
    obtain ⟨c', R⟩ := a
    cases R with
    | cons x l => rfl
    | nil =>
      obtain ⟨h1, h2, h3⟩ := pcert_inv hb hp
      exact absurd (by simpa using h3) (h c' h1 h2)
theorem byt_cert {c : Cert} (h : certOk c) (hn : c.Nodes.length ≤ 65536) : Byt (certB c) := by
  refine Byt.app ?_ ((byt4 h.1).app ((byt4 ⟨by omega, by omega⟩).app (byt_nodes h.2)))
  intro v hv; simp at hv; rcases hv with rfl | rfl <;> decide
theorem certB_inj {c d : Cert} (hc : certOk c) (hn : c.Nodes.length ≤ 65536) (hd : certOk d) (hm : d.Nodes.length ≤ 65536) {R S : List Int} (h : certB c ++ R = certB d ++ S) : c = d ∧ R = S := by
  have h1 := pcert_back hc hn R
  rw [h, pcert_back hd hm S] at h1
  cases h1
  exact ⟨rfl, rfl⟩
theorem getR_err (L : List Int) : (getR L).2 = 0 ∨ ((getR L).1 = ⟨0, []⟩ ∧ (getR L).2 ≠ 0) := by
  unfold getR
  split
  · exact .inr ⟨rfl, by decide⟩
  · split
    · exact .inl rfl
    · exact .inr ⟨rfl, by decide⟩
end Go.Proofs.Ytokccimmgilciaa
