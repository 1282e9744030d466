/-
  What the reference's Get comes to, in plain Lean. Own work; no claim stands here.
-/
import Derived.Test.YtokccimmgilciaaPPackF
namespace Go.Proofs.Ytokccimmgilciaa
open S
set_option linter.unusedVariables false
set_option linter.unusedSimpArgs false
set_option maxRecDepth 100000

abbrev RR := Templeref18_reader
def SR (o : Option (List Int)) (r : RR) : Prop := match o with
  | none => r.bad = true
  | some L => r.bad = false ∧ 0 ≤ r.at_ ∧ r.at_ ≤ (r.s.size : Int) ∧ (bytesL r.s).drop r.at_.toNat = L
theorem SR.byt {o : Option (List Int)} {r : RR} (h : SR o r) : ∀ L, o = some L → Byt L := by
  rintro L rfl
  rw [← h.2.2.2]; exact byt_drop (bytesL_byt _) _

theorem rrnum_l0 (K : Nat) (r : RR) (L : List Int) (h0 : 0 ≤ r.at_) (h1 : r.at_ ≤ (r.s.size : Int)) (hL : (bytesL r.s).drop r.at_.toNat = L) (hsz : r.s.size ≤ 1099511627776) (n : Nat) (hn : n ≤ 4) (hl : n ≤ L.length) (m : Nat) (hm : n < m) : ∃ t, templeref18_reader_num.l0 K r n m (0, 0) = some (val (L.take n), t) := by
  have hll : L.length + r.at_.toNat = r.s.size := by rw [← hL, List.length_drop, bytesL_length]; omega
  have := rounds (L := templeref18_reader_num.l0 K r n) (fun s => ∃ t : Nat, s.2 = t ∧ t ≤ n ∧ s.1 = val (L.take t) ∧ 0 ≤ s.1 ∧ s.1 < 256 ^ t) (fun s => n - s.2.toNat) (fun q => q.1 = val (L.take n)) (fun s m hI => ?_) m (0, 0) ⟨0, rfl, by omega, by simp [val], by simp, by simp⟩ (by simp only [Int.toNat_zero]; omega)
  · obtain ⟨⟨x, t⟩, h1, h2⟩ := this
    exact ⟨t, by rw [h1]; simp only at h2; rw [h2]⟩
  obtain ⟨x, t'⟩ := s
  obtain ⟨t, rfl, ht, hx, hx0, hx1⟩ := hI
  simp only at hx hx0 hx1
  simp only [templeref18_reader_num.l0]
  by_cases hlt : (t : Int) < n
  · have hlt' : t < n := by omega
    have hby : Byt L := by rw [← hL]; exact byt_drop (bytesL_byt _) _
    obtain ⟨b0, b1⟩ := hby (rd L (t : Int)) (rd_mem (Int.natCast_nonneg t) (by omega))
    have hx2 : x < 16777216 := by
      have : t ≤ 3 := by omega
      have : (256 : Int) ^ t ≤ 256 ^ 3 := by exact_mod_cast Nat.pow_le_pow_right (by decide) this
      have : (256 : Int) ^ 3 = 16777216 := rfl
      omega
    have hb : bt r.s (r.at_ + (t : Int)) = rd L (t : Int) := by
      rw [bt_rd, ← hL]
      unfold rd
      rw [List.getD_eq_getElem?_getD, List.getD_eq_getElem?_getD, List.getElem?_drop]
      congr 2
      omega
    rw [if_pos hlt, wr (a := r.at_ + (t : Int)) (by omega) (by omega), if_pos (by omega), if_pos (by omega), hb, shift_or hx0 hx2 b0 b1, wr (a := (t : Int) + 1) (by omega) (by omega)]
    have e : L.take (t + 1) = L.take t ++ [rd L (t : Int)] := by
      rw [List.take_add_one, rd_nat]
      have : t < L.length := by omega
      simp [List.getD_eq_getElem?_getD, this]
    refine .inr ⟨(_, (t : Int) + 1), ⟨t + 1, by simp, by omega, by simp only; rw [e, val_app, hx], by simp only; omega, ?_⟩, by simp only; omega, rfl⟩
    simp only
    rw [Int.pow_succ]; omega
  · have : t = n := by omega
    subst this
    rw [if_neg hlt]
    exact .inl ⟨_, rfl, hx⟩

theorem rrnum_any (K : Nat) (hK : 6 ≤ K) (r : RR) (o : Option (List Int)) (h : SR o r) (hsz : r.s.size ≤ 1099511627776) (n : Nat) (hn : n ≤ 4) : ∃ r', templeref18_reader_num K r n = some (vl n o, r') ∧ SR (nx n o) r' ∧ r'.s = r.s := by
  cases o with
  | none =>
    have hb : r.bad = true := h
    refine ⟨⟨r.s, r.at_, true⟩, ?_, rfl, rfl⟩
    unfold templeref18_reader_num
    rw [if_pos hb]; rfl
  | some L =>
    obtain ⟨hb, h0, h1, hL⟩ := h
    have hll : L.length + r.at_.toNat = r.s.size := by rw [← hL, List.length_drop, bytesL_length]; omega
    unfold templeref18_reader_num
    rw [hb, if_neg (by decide), wr (a := (r.s.size : Int) - r.at_) (by omega) (by omega)]
    by_cases hlt : L.length < n
    · have hp : pnum n L = none := by unfold pnum; rw [if_pos hlt]
      rw [if_pos (by omega)]
      refine ⟨⟨r.s, r.at_, true⟩, ?_, ?_, rfl⟩
      · unfold vl; rw [Option.bind_some, hp]; rfl
      · unfold nx; rw [Option.bind_some, hp]; rfl
    · have hp : pnum n L = some (val (L.take n), L.drop n) := by unfold pnum; rw [if_neg hlt]
      obtain ⟨t, ht⟩ := rrnum_l0 K r L h0 h1 hL hsz n hn (by omega) K (by omega)
      rw [if_neg (by omega), ht]
      simp only [Option.bind_some]
      rw [wr (a := r.at_ + (n : Int)) (by omega) (by omega)]
      refine ⟨⟨r.s, r.at_ + n, false⟩, ?_, ?_, rfl⟩
      · unfold vl; rw [Option.bind_some, hp]; rfl
      · unfold nx; rw [Option.bind_some, hp]
        refine ⟨rfl, by simp only; omega, by simp only; omega, ?_⟩
        simp only
        rw [← hL, List.drop_drop]
        congr 1; omega

def OutR {T : Type} (o : Option (T × List Int)) (v : T) (r : RR) : Prop := (∀ x L, o = some (x, L) → v = x) ∧ SR (o.map (·.2)) r

theorem rmany_loop {T : Type} (L : Nat → (List T × ByteArray × Int × Bool × Int) → Option (List T × ByteArray × Int × Bool × Int)) (f : RR → Option (T × RR)) (p : List Int → Option (T × List Int)) (G : T → Prop) (sz N : Nat)
    (hL : ∀ m xs s a b i, L (m + 1) (xs, s, a, b, i) = if i < (N : Int) then if (!b) = true then (f (⟨s, a, b⟩ : RR)).bind fun r_20 => if (xs.length + ([r_20.1] : List T).length) * sz ≤ 140737488355328 then L m (xs ++ ([r_20.1] : List T), r_20.2.s, r_20.2.at_, r_20.2.bad, IntKind.wrap .i64 (i + 1)) else none else some (xs, s, a, b, i) else some (xs, s, a, b, i))
    (hf : ∀ (r : RR) (M : List Int), SR (some M) r → r.s.size ≤ 1099511627776 → ∃ v r', f r = some (v, r') ∧ OutR (p M) v r' ∧ r'.s = r.s ∧ G v) (hN : N ≤ 65536) (hszb : 65537 * sz ≤ 140737488355328) (r0 : RR) (o : Option (List Int)) (h0 : SR o r0) (hs : r0.s.size ≤ 1099511627776) (m : Nat) (hm : N < m) :
    ∃ xs s a b i, L m ([], r0.s, r0.at_, r0.bad, 0) = some (xs, s, a, b, i) ∧ OutR (o.bind (pmany p N)) xs ⟨s, a, b⟩ ∧ s = r0.s ∧ xs.length ≤ N ∧ ∀ x ∈ xs, G x := by
  have := rounds (L := L) (fun q => ∃ k : Nat, q.2.2.2.2 = (k : Int) ∧ k ≤ N ∧ q.1.length = k ∧ q.2.1 = r0.s ∧ (∀ x ∈ q.1, G x) ∧ ((q.2.2.2.1 = false ∧ ∃ M, SR (some M) ⟨q.2.1, q.2.2.1, q.2.2.2.1⟩ ∧ o.bind (pmany p k) = some (q.1, M)) ∨ (q.2.2.2.1 = true ∧ o.bind (pmany p k) = none))) (fun q => N - q.2.2.2.2.toNat) (fun q => OutR (o.bind (pmany p N)) q.1 ⟨q.2.1, q.2.2.1, q.2.2.2.1⟩ ∧ q.2.1 = r0.s ∧ q.1.length ≤ N ∧ ∀ x ∈ q.1, G x) (fun q m hI => ?_) m ([], r0.s, r0.at_, r0.bad, 0)
    ⟨0, rfl, by omega, rfl, rfl, by simp, by
      cases o with
      | none => exact .inr ⟨h0, rfl⟩
      | some M => exact .inl ⟨h0.1, M, h0, rfl⟩⟩ (by simp only [Int.toNat_zero]; omega)
  · obtain ⟨⟨xs, s, a, b, i⟩, h1, h2, h3, h4, h5⟩ := this
    exact ⟨xs, s, a, b, i, h1, h2, h3, h4, h5⟩
  obtain ⟨xs, s, a, b, i'⟩ := q
  obtain ⟨k, hk', hk, hx, hss, hG, hcase⟩ := hI
  simp only at hk' hx hss hG hcase
  subst hk'
  rw [hL]
  have stay : ∀ {k' : Nat}, k' ≤ N → o.bind (pmany p k') = none → o.bind (pmany p N) = none := by
    intro k' hk' h
    cases o with
    | none => rfl
    | some M => exact pmany_none h hk'
  rcases hcase with ⟨rfl, M, hM, hp⟩ | ⟨rfl, hp⟩
  · by_cases hlt : k < N
    · obtain ⟨v, r', h1, h2, h3, h4⟩ := hf ⟨s, a, false⟩ M hM (by simp only; rw [hss]; exact hs)
      have hb : (xs.length + ([v] : List T).length) * sz ≤ 140737488355328 := Nat.le_trans (Nat.mul_le_mul_right _ (by rw [List.length_singleton]; omega)) hszb
      rw [if_pos (by omega), if_pos (by decide), h1, Option.bind_some, if_pos hb, wr (a := (k : Int) + 1) (by omega) (by omega)]
      refine .inr ⟨(xs ++ [v], r'.s, r'.at_, r'.bad, (k : Int) + 1), ⟨k + 1, by simp, by omega, by simp [hx], by simp only; rw [h3]; exact hss, ?_, ?_⟩, by simp only; omega, rfl⟩
      · intro x hxm
        rcases List.mem_append.1 hxm with h | h
        · exact hG x h
        · simp at h; subst h; exact h4
      · cases o with
        | none => cases hp
        | some L0 =>
          have hs := pmany_succ p k L0
          have hp' : pmany p k L0 = some (xs, M) := hp
          rw [hp', Option.bind_some] at hs
          simp only at hs ⊢
          obtain ⟨q1, q2⟩ := h2
          cases ho : p M with
          | none =>
            rw [ho] at q2 hs
            exact .inr ⟨q2, by rw [Option.bind_some, hs]; rfl⟩
          | some c =>
            rw [ho] at q2 hs
            have hv := q1 c.1 c.2 (by rw [ho])
            have q2' : SR (some c.2) r' := q2
            exact .inl ⟨q2'.1, c.2, q2', by rw [Option.bind_some, hs, hv]; rfl⟩
    · have : k = N := by omega
      subst this
      rw [if_neg (by omega)]
      refine .inl ⟨_, rfl, ⟨fun x L h => ?_, ?_⟩, hss, by simp only; omega, hG⟩
      · rw [hp] at h; cases h; rfl
      · rw [hp]; exact hM
  · refine .inl ⟨(xs, s, a, true, (k : Int)), by split <;> rfl, ⟨fun x L h => ?_, ?_⟩, hss, by simp only; omega, hG⟩
    · rw [stay hk hp] at h; cases h
    · rw [stay hk hp]; exact rfl

theorem rnum4 (K : Nat) (hK : 6 ≤ K) (r : RR) (M : List Int) (h : SR (some M) r) (hs : r.s.size ≤ 1099511627776) : ∃ v r', templeref18_reader_num K r 4 = some (v, r') ∧ OutR (pnum 4 M) v r' ∧ r'.s = r.s ∧ True := by
  obtain ⟨r', h1, h2, h3⟩ := rrnum_any K hK r _ h hs 4 (by omega)
  refine ⟨_, r', h1, ⟨fun x L h => ?_, h2⟩, h3, trivial⟩
  unfold vl; rw [Option.bind_some, h]; rfl

theorem rpick_spec (K : Nat) (hK : 70000 ≤ K) (r : RR) (M : List Int) (h : SR (some M) r) (hs : r.s.size ≤ 1099511627776) : ∃ v r', templeref18_reader_pick K r = some (v, r') ∧ OutR (ppick M) v r' ∧ r'.s = r.s ∧ v.Kids.length ≤ 255 := by
  obtain ⟨r1, e1, s1, z1⟩ := rrnum_any K (by omega) r _ h hs 2 (by omega)
  obtain ⟨r2, e2, s2, z2⟩ := rrnum_any K (by omega) r1 _ s1 (by rw [z1]; exact hs) 1 (by omega)
  obtain ⟨r3, e3, s3, z3⟩ := rrnum_any K (by omega) r2 _ s2 (by rw [z2, z1]; exact hs) 1 (by omega)
  obtain ⟨n0, n1⟩ := vl_range 1 _ s2.byt
  obtain ⟨N, hN⟩ := Int.eq_ofNat_of_zero_le n0
  have hN1 : N < 256 := by rw [hN] at n1; have : (256 : Int) ^ 1 = 256 := rfl; omega
  obtain ⟨xs, s, a, b, i, e4, ⟨o1, o2⟩, z4, l4, _⟩ := rmany_loop (templeref18_reader_pick.l0 K ((N : Int), r3)) (fun r => templeref18_reader_num K r 4) (pnum 4) (fun _ => True) 8 N (fun m xs s a b i => by simp only [templeref18_reader_pick.l0]) (fun r M h hs => rnum4 K (by omega) r M h hs) (by omega) (by omega) r3 _ s3 (by rw [z3, z2, z1]; exact hs) K (by omega)
  have e1' : templeref18_reader_num K (⟨r.s, r.at_, r.bad⟩ : RR) 2 = some (_, r1) := e1
  have e2' : templeref18_reader_num K (⟨r1.s, r1.at_, r1.bad⟩ : RR) 1 = some (_, r2) := e2
  have e3' : templeref18_reader_num K (⟨r2.s, r2.at_, r2.bad⟩ : RR) 1 = some (_, r3) := e3
  refine ⟨(⟨vl 2 (some M), vl 1 (nx 2 (some M)), xs⟩ : Pick), ⟨s, a, b⟩, ?_, ?_, by simp only; rw [z4, z3, z2, z1], by simp only; omega⟩
  · unfold templeref18_reader_pick
    rw [e1', Option.bind_some, e2', Option.bind_some, e3', Option.bind_some, hN, e4]
    rfl
  · have hp : ppick M = ((nx 1 (nx 1 (nx 2 (some M)))).bind fun L => (pmany (pnum 4) N L).bind fun k => some (⟨vl 2 (some M), vl 1 (nx 2 (some M)), k.1⟩, k.2)) := by
      show ((some M).bind ppick) = _
      unfold ppick
      simp only [chain]
      rw [hN]; rfl
    rw [hp]
    cases ho : nx 1 (nx 1 (nx 2 (some M))) with
    | none => rw [ho] at o2; exact ⟨fun x L h => (by cases h), o2⟩
    | some L =>
      rw [ho] at o1 o2
      simp only [Option.bind_some] at o1 o2 ⊢
      cases hm : pmany (pnum 4) N L with
      | none => rw [hm] at o2; exact ⟨fun x L h => (by cases h), o2⟩
      | some q =>
        rw [hm] at o1 o2
        have := o1 q.1 q.2 rfl
        exact ⟨fun x L h => by cases h; rw [this], o2⟩

/-! ### What is read fits -/
theorem pnum_F {n : Nat} {L : List Int} {a : Int × List Int} (hb : Byt L) (h : pnum n L = some a) : 0 ≤ a.1 ∧ a.1 < 256 ^ n ∧ Byt a.2 := by
  unfold pnum at h
  split at h
  · cases h
  · cases h
    have := val_range (byt_take hb n)
    rw [List.length_take, Nat.min_eq_left (by omega)] at this
    exact ⟨this.1, this.2, byt_drop hb n⟩
theorem pmany_F {T : Type} {p : List Int → Option (T × List Int)} {G : T → Prop} (hp : ∀ L a, Byt L → p L = some a → G a.1 ∧ Byt a.2) : ∀ {n : Nat} {L : List Int} {a : List T × List Int}, Byt L → pmany p n L = some a → (∀ x ∈ a.1, G x) ∧ Byt a.2 := by
  intro n
  induction n with
  | zero => intro L a hb h; simp [pmany] at h; subst h; exact ⟨by simp, hb⟩
  | succ n ih =>
    intro L a hb h
    rw [pmany] at h
    cases h1 : p L with
    | none => rw [h1] at h; cases h
    | some c =>
      obtain ⟨g1, g2⟩ := hp L c hb h1
      rw [h1, Option.bind_some] at h
      cases h2 : pmany p n c.2 with
      | none => rw [h2] at h; cases h
      | some d =>
        obtain ⟨k1, k2⟩ := ih g2 h2
        rw [h2, Option.bind_some] at h
        cases h
        exact ⟨fun x hx => by rcases List.mem_cons.1 hx with rfl | hx; exact g1; exact k1 x hx, k2⟩
theorem pow1 : (256 : Int) ^ 1 = 256 := rfl
theorem pow2 : (256 : Int) ^ 2 = 65536 := rfl
theorem pow4 : (256 : Int) ^ 4 = 4294967296 := rfl
theorem ppick_F {L : List Int} {a : Pick × List Int} (hb : Byt L) (h : ppick L = some a) : pickOk a.1 ∧ Byt a.2 := by
  unfold ppick at h
  cases h1 : pnum 2 L with
  | none => rw [h1] at h; cases h
  | some q1 =>
    obtain ⟨a1, a2, a3⟩ := pnum_F hb h1
    rw [h1, Option.bind_some] at h
    cases h2 : pnum 1 q1.2 with
    | none => rw [h2] at h; cases h
    | some q2 =>
      obtain ⟨b1, b2, b3⟩ := pnum_F a3 h2
      rw [h2, Option.bind_some] at h
      cases h3 : pnum 1 q2.2 with
      | none => rw [h3] at h; cases h
      | some q3 =>
        obtain ⟨c1, c2, c3⟩ := pnum_F b3 h3
        rw [h3, Option.bind_some] at h
        cases h4 : pmany (pnum 4) q3.1.toNat q3.2 with
        | none => rw [h4] at h; cases h
        | some q4 =>
          obtain ⟨d1, d2⟩ := pmany_F (G := F4) (fun L a hb h => by
            obtain ⟨x, y, z⟩ := pnum_F hb h
            exact ⟨⟨x, by rw [pow4] at y; exact y⟩, z⟩) c3 h4
          have hl := pmany_len h4
          rw [h4, Option.bind_some] at h
          cases h
          rw [pow2] at a2
          rw [pow1] at b2 c2
          exact ⟨⟨⟨a1, a2⟩, ⟨b1, b2⟩, ⟨by simp only; omega, by simp only; omega⟩, d1⟩, d2⟩

theorem rnode_spec (K : Nat) (hK : 70000 ≤ K) (r : RR) (M : List Int) (h : SR (some M) r) (hs : r.s.size ≤ 1099511627776) : ∃ v r', templeref18_reader_node K r = some (v, r') ∧ OutR (pnode M) v r' ∧ r'.s = r.s ∧ True := by
  obtain ⟨r1, e1, s1, z1⟩ := rrnum_any K (by omega) r _ h hs 1 (by omega)
  obtain ⟨r2, e2, s2, z2⟩ := rrnum_any K (by omega) r1 _ s1 (by rw [z1]; exact hs) 1 (by omega)
  rw [z1] at z2
  obtain ⟨r3, e3, s3, z3⟩ := rrnum_any K (by omega) r2 _ s2 (by rw [z2]; exact hs) 2 (by omega)
  rw [z2] at z3
  obtain ⟨r4, e4, s4, z4⟩ := rrnum_any K (by omega) r3 _ s3 (by rw [z3]; exact hs) 2 (by omega)
  rw [z3] at z4
  obtain ⟨r5, e5, s5, z5⟩ := rrnum_any K (by omega) r4 _ s4 (by rw [z4]; exact hs) 1 (by omega)
  rw [z4] at z5
  obtain ⟨r6, e6, s6, z6⟩ := rrnum_any K (by omega) r5 _ s5 (by rw [z5]; exact hs) 1 (by omega)
  rw [z5] at z6
  obtain ⟨r7, e7, s7, z7⟩ := rrnum_any K (by omega) r6 _ s6 (by rw [z6]; exact hs) 1 (by omega)
  rw [z6] at z7
  obtain ⟨r8, e8, s8, z8⟩ := rrnum_any K (by omega) r7 _ s7 (by rw [z7]; exact hs) 1 (by omega)
  rw [z7] at z8
  obtain ⟨r9, e9, s9, z9⟩ := rrnum_any K (by omega) r8 _ s8 (by rw [z8]; exact hs) 4 (by omega)
  rw [z8] at z9
  obtain ⟨r10, e10, s10, z10⟩ := rrnum_any K (by omega) r9 _ s9 (by rw [z9]; exact hs) 2 (by omega)
  rw [z9] at z10
  have g1 := vl_range 1 _ h.byt
  have g2 := vl_range 1 _ s1.byt
  have g3 := vl_range 2 _ s2.byt
  have g4 := vl_range 2 _ s3.byt
  have g5 := vl_range 1 _ s4.byt
  have g6 := vl_range 1 _ s5.byt
  have g7 := vl_range 1 _ s6.byt
  have g8 := vl_range 1 _ s7.byt
  have g9 := vl_range 4 _ s8.byt
  obtain ⟨n0, n1⟩ := vl_range 2 _ s9.byt
  have hby := s10.byt
  rw [pnode_eq]
  unfold pnode
  simp only [chain]
  clear s1 s2 s3 s4 s5 s6 s7 s8 s9
  generalize hO0 : (some M : Option (List Int)) = O0 at *
  generalize hv1 : vl 1 O0 = v1 at *
  generalize hO1 : nx 1 O0 = O1 at *
  generalize hv2 : vl 1 O1 = v2 at *
  generalize hO2 : nx 1 O1 = O2 at *
  generalize hv3 : vl 2 O2 = v3 at *
  generalize hO3 : nx 2 O2 = O3 at *
  generalize hv4 : vl 2 O3 = v4 at *
  generalize hO4 : nx 2 O3 = O4 at *
  generalize hv5 : vl 1 O4 = v5 at *
  generalize hO5 : nx 1 O4 = O5 at *
  generalize hv6 : vl 1 O5 = v6 at *
  generalize hO6 : nx 1 O5 = O6 at *
  generalize hv7 : vl 1 O6 = v7 at *
  generalize hO7 : nx 1 O6 = O7 at *
  generalize hv8 : vl 1 O7 = v8 at *
  generalize hO8 : nx 1 O7 = O8 at *
  generalize hv9 : vl 4 O8 = v9 at *
  generalize hO9 : nx 4 O8 = O9 at *
  generalize hv10 : vl 2 O9 = v10 at *
  generalize hO10 : nx 2 O9 = O10 at *
  obtain ⟨N, rfl⟩ := Int.eq_ofNat_of_zero_le n0
  rw [pow2] at n1
  have hN1 : N < 65536 := by omega
  obtain ⟨xs, s, a, b, i, e11, ⟨o1, o2⟩, z11, l11, hG⟩ := rmany_loop (templeref18_reader_node.l0 K ((N : Int), r10)) (templeref18_reader_pick K) ppick (fun p => p.Kids.length ≤ 255) 40 N (fun m xs s a b i => by simp only [templeref18_reader_node.l0]) (fun r M h hs => rpick_spec K hK r M h hs) (by omega) (by omega) r10 _ s10 (by rw [z10]; exact hs) K (by omega)
  rw [z10] at z11
  have e1' : templeref18_reader_num K (⟨r.s, r.at_, r.bad⟩ : RR) 1 = some (_, r1) := e1
  have e2' : templeref18_reader_num K (⟨r1.s, r1.at_, r1.bad⟩ : RR) 1 = some (_, r2) := e2
  have e3' : templeref18_reader_num K (⟨r2.s, r2.at_, r2.bad⟩ : RR) 2 = some (_, r3) := e3
  have e4' : templeref18_reader_num K (⟨r3.s, r3.at_, r3.bad⟩ : RR) 2 = some (_, r4) := e4
  have e5' : templeref18_reader_num K (⟨r4.s, r4.at_, r4.bad⟩ : RR) 1 = some (_, r5) := e5
  have e6' : templeref18_reader_num K (⟨r5.s, r5.at_, r5.bad⟩ : RR) 1 = some (_, r6) := e6
  have e7' : templeref18_reader_num K (⟨r6.s, r6.at_, r6.bad⟩ : RR) 1 = some (_, r7) := e7
  have e8' : templeref18_reader_num K (⟨r7.s, r7.at_, r7.bad⟩ : RR) 1 = some (_, r8) := e8
  have e9' : templeref18_reader_num K (⟨r8.s, r8.at_, r8.bad⟩ : RR) 4 = some (_, r9) := e9
  have e10' : templeref18_reader_num K (⟨r9.s, r9.at_, r9.bad⟩ : RR) 2 = some (_, r10) := e10
  unfold templeref18_reader_node
  rw [e1', Option.bind_some, e2', Option.bind_some, e3', Option.bind_some, e4', Option.bind_some, e5', Option.bind_some, e6', Option.bind_some, e7', Option.bind_some, e8', Option.bind_some, e9', Option.bind_some, e10', Option.bind_some, e11]
  simp only [Option.bind_some]
  obtain ⟨c, c1, c2⟩ := nodeMay_spec K (⟨decide (v1 = 1), v2, v3, ⟨v4, v5, v6⟩, v7, v8, v9, xs⟩ : Node) (by simp only; omega) (by simp only; omega) (fun p hp => by have := hG p hp; omega)
  -- all ways end; what is bad stays so
  have main : ∀ (o : Option (Node × List Int)), (b = true → o = none) → (b = false → (v1 ≤ 1 ∧ c = true → ∃ L', o = some ((⟨decide (v1 = 1), v2, v3, ⟨v4, v5, v6⟩, v7, v8, v9, xs⟩ : Node), L') ∧ SR (some L') ⟨s, a, b⟩) ∧ (¬ (v1 ≤ 1 ∧ c = true) → o = none)) → ∃ v r', (if 1 < v1 then some ((⟨decide (v1 = 1), v2, v3, ⟨v4, v5, v6⟩, v7, v8, v9, xs⟩ : Node), (⟨s, a, true⟩ : RR)) else (templeref18_nodeMay K (⟨decide (v1 = 1), v2, v3, ⟨v4, v5, v6⟩, v7, v8, v9, xs⟩ : Node)).bind fun r_40 => if (!r_40) = true then some ((⟨decide (v1 = 1), v2, v3, ⟨v4, v5, v6⟩, v7, v8, v9, xs⟩ : Node), (⟨s, a, true⟩ : RR)) else some ((⟨decide (v1 = 1), v2, v3, ⟨v4, v5, v6⟩, v7, v8, v9, xs⟩ : Node), (⟨s, a, b⟩ : RR))) = some (v, r') ∧ OutR o v r' ∧ r'.s = r.s ∧ True := by
    intro o hb1 hb2
    have none_of : o = none → ∀ v a, OutR o v (⟨s, a, true⟩ : RR) := by rintro rfl v a; exact ⟨fun x L h => (by cases h), rfl⟩
    by_cases hv : 1 < v1
    · rw [if_pos hv]
      refine ⟨_, _, rfl, none_of ?_ _ _, z11, trivial⟩
      cases hbb : b with
      | true => exact hb1 hbb
      | false => exact (hb2 hbb).2 (fun h => by have := h.1; omega)
    · rw [if_neg hv, c1, Option.bind_some]
      cases hc : c with
      | false =>
        rw [if_pos (by decide)]
        refine ⟨_, _, rfl, none_of ?_ _ _, z11, trivial⟩
        cases hbb : b with
        | true => exact hb1 hbb
        | false => exact (hb2 hbb).2 (fun h => by have := h.2; rw [hc] at this; cases this)
      | true =>
        rw [if_neg (by decide)]
        refine ⟨_, _, rfl, ?_, z11, trivial⟩
        cases hbb : b with
        | true => exact none_of (hb1 hbb) _ _
        | false =>
          obtain ⟨L', h1, h2⟩ := (hb2 hbb).1 ⟨by omega, hc⟩
          rw [h1]
          refine ⟨fun x L h => by cases h; rfl, ?_⟩
          rw [← hbb]; exact h2
  refine main _ (fun hb => ?_) (fun hb => ?_)
  · cases O10 with
    | none => rfl
    | some L =>
      simp only [Option.bind_some, Int.toNat_natCast] at o2 ⊢
      cases hm : pmany ppick N L with
      | none => rfl
      | some q => rw [hm] at o2; have := o2.1; rw [hb] at this; cases this
  · cases O10 with
    | none => have : b = true := o2
              rw [hb] at this; cases this
    | some L =>
      simp only [Option.bind_some, Int.toNat_natCast] at o1 o2 ⊢
      cases hm : pmany ppick N L with
      | none => rw [hm] at o2; have : b = true := o2
                rw [hb] at this; cases this
      | some q =>
        rw [hm] at o1 o2
        have hq := o1 q.1 q.2 rfl
        subst hq
        obtain ⟨k1, k2⟩ := pmany_F (G := pickOk) (fun L a hb h => ppick_F hb h) (hby L rfl) hm
        have hxl := pmany_len hm
        rw [pow1] at g1 g2 g5 g6 g7 g8
        rw [pow2] at g3 g4
        rw [pow4] at g9
        have hok : nodeOk (⟨decide (v1 = 1), v2, v3, ⟨v4, v5, v6⟩, v7, v8, v9, q.1⟩ : Node) ↔ shapeOk (⟨decide (v1 = 1), v2, v3, ⟨v4, v5, v6⟩, v7, v8, v9, q.1⟩ : Node) :=
          ⟨fun h => h.1, fun h => ⟨h, ⟨g2, g3, g4, g5, g6, g7, g8, g9, ⟨by simp only; omega, by simp only; omega⟩⟩, k1⟩⟩
        simp only [Option.bind_some]
        have hT : nodeT v1 ⟨sg v1, v2, v3, ⟨v4, v5, v6⟩, v7, v8, v9, q.1⟩ = true ↔ (v1 ≤ 1 ∧ c = true) := by
          unfold nodeT
          rw [decide_eq_true_eq, c2, hok]
          rfl
        refine ⟨fun h => ?_, fun h => ?_⟩
        · rw [hT.2 h]
          exact ⟨q.2, rfl, o2⟩
        · have : nodeT v1 ⟨sg v1, v2, v3, ⟨v4, v5, v6⟩, v7, v8, v9, q.1⟩ = false := by
            cases hh : nodeT v1 ⟨sg v1, v2, v3, ⟨v4, v5, v6⟩, v7, v8, v9, q.1⟩ with
            | false => rfl
            | true => exact absurd (hT.1 hh) h
          rw [this]; rfl

theorem RGet_spec (K : Nat) (hK : 70000 ≤ K) (s : ByteArray) : templeref18_Get K s = some (getR (bytesL s)) := by
  have hl := bytesL_length s
  have h84 : (⟨#[84, 67]⟩ : ByteArray) = strL [84, 67] := by decide
  have hb84 : Byt [84, 67] := by intro v hv; simp at hv; rcases hv with rfl | rfl <;> decide
  unfold templeref18_Get getR
  by_cases hbig : 1048576 < s.size
  · rw [if_pos (show (1048576 : Int) < (s.size : Int) by omega), if_pos (show 1048576 < (bytesL s).length by omega)]
  rw [if_neg (show ¬ (1048576 : Int) < (s.size : Int) by omega), if_neg (show ¬ 1048576 < (bytesL s).length by omega)]
  by_cases h2 : s.size < 2
  · have hn : ¬ (bytesL s).take 2 = [84, 67] := by
      intro h
      have := congrArg List.length h
      rw [List.length_take] at this
      simp at this
      omega
    rw [if_pos (by omega)]
    unfold pcert
    rw [if_neg hn]
  rw [if_neg (by omega)]
  have e := bytesL_sls s 0 2
  simp only [Int.toNat_zero, List.drop_zero] at e
  have hq : (sls s 0 2 = strL [84, 67]) ↔ (bytesL s).take 2 = [84, 67] := by
    constructor
    · intro h; rw [h, byt_back hb84] at e; exact e.symm
    · intro h
      have : strL (bytesL (sls s 0 2)) = strL [84, 67] := by rw [e]; exact congrArg strL h
      rwa [strL_bytesL] at this
  rw [h84]
  by_cases hp : (bytesL s).take 2 = [84, 67]
  case neg =>
    rw [if_pos (fun h => hp (hq.1 h))]
    unfold pcert
    rw [if_neg hp]
  rw [if_neg (fun h => h (hq.2 hp))]
  have s0 : SR (some ((bytesL s).drop 2)) (⟨s, 2, false⟩ : RR) := ⟨rfl, by simp, by simp only; omega, rfl⟩
  have hcert : pcert (bytesL s) = ((some ((bytesL s).drop 2)).bind fun L => (pnum 4 L).bind fun r => (pnum 4 r.2).bind fun n => bif decide (n.1 ≤ 65536) then (pmany pnode n.1.toNat n.2).bind fun q => some (⟨r.1, q.1⟩, q.2) else none) := by
    unfold pcert; rw [if_pos hp]; rfl
  rw [hcert]
  obtain ⟨r1, e1, s1, z1⟩ := rrnum_any K (by omega) _ _ s0 (by simp only; omega) 4 (by omega)
  obtain ⟨r2, e2, s2, z2⟩ := rrnum_any K (by omega) r1 _ s1 (by rw [z1]; simp only; omega) 4 (by omega)
  rw [z1] at z2
  obtain ⟨n0, n1⟩ := vl_range 4 _ s1.byt
  simp only [chain]
  generalize hO0 : (some ((bytesL s).drop 2) : Option (List Int)) = o0 at *
  generalize hv1 : vl 4 o0 = v1 at *
  generalize hO1 : nx 4 o0 = O1 at *
  generalize hv2 : vl 4 O1 = v2 at *
  generalize hO2 : nx 4 O1 = O2 at *
  obtain ⟨N, rfl⟩ := Int.eq_ofNat_of_zero_le n0
  have e1' : templeref18_reader_num K (⟨s, 2, false⟩ : RR) 4 = some (v1, r1) := e1
  have e2' : templeref18_reader_num K (⟨r1.s, r1.at_, r1.bad⟩ : RR) 4 = some (_, r2) := e2
  rw [e1', Option.bind_some, e2', Option.bind_some]
  simp only
  by_cases hN : 65536 < N
  · rw [if_pos (by omega)]
    cases O2 with
    | none => rfl
    | some L => simp only [Option.bind_some]; rw [decide_eq_false (by omega)]; rfl
  rw [if_neg (by omega)]
  obtain ⟨xs, s', a, b, i, e11, ⟨o1, o2⟩, z11, l11, _⟩ := rmany_loop (templeref18_Get.l0 K ((N : Int), r2)) (templeref18_reader_node K) pnode (fun _ => True) 96 N (fun m xs s a b i => by simp only [templeref18_Get.l0]) (fun r M h hs => rnode_spec K hK r M h hs) (by omega) (by omega) r2 _ s2 (by rw [z2]; simp only; omega) K (by omega)
  rw [z2] at z11
  simp only at z11
  rw [e11]
  simp only [Option.bind_some]
  cases O2 with
  | none =>
    have : b = true := o2
    rw [if_pos this]; rfl
  | some L =>
    simp only [Option.bind_some, Int.toNat_natCast] at o1 o2 ⊢
    rw [decide_eq_true (by omega), cond_true]
    cases hm : pmany pnode N L with
    | none =>
      rw [hm] at o2
      have : b = true := o2
      rw [if_pos this]; rfl
    | some q =>
      rw [hm] at o1 o2
      have hq := o1 q.1 q.2 rfl
      subst hq
      obtain ⟨hb, ha0, ha1, hd⟩ := o2
      simp only at hb ha0 ha1 hd
      subst z11
      rw [if_neg (by rw [hb]; decide)]
      simp only [Option.bind_some]
      have hne : a ≠ (s'.size : Int) ↔ q.2 ≠ [] := by
        rw [← hd]
        constructor
        · intro h h'
          apply h
          have := congrArg List.length h'
          rw [List.length_drop, bytesL_length] at this
          simp at this
          omega
        · intro h h'
          apply h
          apply List.drop_eq_nil_of_le
          rw [bytesL_length]; omega
      cases hq : q.2 with
      | nil => rw [if_neg (fun h => hne.1 h hq)]
      | cons x l => rw [if_pos (hne.2 (by rw [hq]; simp))]
end Go.Proofs.Ytokccimmgilciaa
