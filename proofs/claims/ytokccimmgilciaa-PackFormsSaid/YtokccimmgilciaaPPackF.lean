/-
  What the program's Get comes to, in plain Lean. Own work; no claim stands here.
-/
import Derived.Test.YtokccimmgilciaaPPackE
namespace Go.Proofs.Ytokccimmgilciaa
open S
set_option linter.unusedVariables false
set_option linter.unusedSimpArgs false
set_option maxRecDepth 100000

/-- What is left; what a number is. -/
def nx (n : Nat) (o : Option (List Int)) : Option (List Int) := (o.bind (pnum n)).map (·.2)
def vl (n : Nat) (o : Option (List Int)) : Int := ((o.bind (pnum n)).map (·.1)).getD 0
theorem chain {β : Type} (n : Nat) (o : Option (List Int)) (G : Int × List Int → Option β) : (o.bind fun L => (pnum n L).bind G) = (nx n o).bind fun L => G (vl n o, L) := by
  cases o with
  | none => rfl
  | some L =>
    simp only [Option.bind_some, nx, vl]
    cases pnum n L <;> rfl
theorem val_range {bs : List Int} (h : Byt bs) : 0 ≤ val bs ∧ val bs < 256 ^ bs.length := by
  induction hn : bs.length generalizing bs with
  | zero => have := List.length_eq_zero_iff.1 hn; subst this; simp [val]
  | succ n ih =>
    obtain ⟨zs, b, rfl⟩ : ∃ zs b, bs = zs ++ [b] := ⟨bs.dropLast, bs.getLast (by intro e; subst e; cases hn), (List.dropLast_concat_getLast _).symm⟩
    obtain ⟨h1, h2⟩ := byt_app.1 h
    obtain ⟨b0, b1⟩ := h2 b (by simp)
    obtain ⟨g0, g1⟩ := ih h1 (by simpa using hn)
    rw [val_app, Int.pow_succ]
    omega
theorem byt_take {L : List Int} (h : Byt L) (n : Nat) : Byt (L.take n) := fun v hv => h v (List.mem_of_mem_take hv)
theorem byt_drop {L : List Int} (h : Byt L) (n : Nat) : Byt (L.drop n) := fun v hv => h v (List.mem_of_mem_drop hv)
theorem vl_range (n : Nat) (o : Option (List Int)) (h : ∀ L, o = some L → Byt L) : 0 ≤ vl n o ∧ vl n o < 256 ^ n := by
  have hpos : (0 : Int) < 256 ^ n := by have := Nat.pow_pos (n := n) (show 0 < 256 by decide); exact_mod_cast this
  unfold vl
  cases o with
  | none => exact ⟨Int.le_refl _, hpos⟩
  | some L =>
    simp only [Option.bind_some, pnum]
    split
    · exact ⟨Int.le_refl _, hpos⟩
    · have := val_range (byt_take (h L rfl) n)
      rw [List.length_take, Nat.min_eq_left (by omega)] at this
      exact this

def St (o : Option (List Int)) (r : Pack_reader) : Prop := match o with
  | none => r.bad = true
  | some L => r.bad = false ∧ bytesL r.s = L
theorem St.byt {o : Option (List Int)} {r : Pack_reader} (h : St o r) : ∀ L, o = some L → Byt L := by
  rintro L rfl
  rw [← h.2]; exact bytesL_byt _

theorem rnum_any (K : Nat) (hK : 6 ≤ K) (r : Pack_reader) (o : Option (List Int)) (h : St o r) (hsz : r.s.size ≤ 1099511627776) (n : Nat) (hn : n ≤ 4) : ∃ r', pack_reader_num K r n = some (vl n o, r') ∧ St (nx n o) r' ∧ r'.s.size ≤ r.s.size := by
  cases o with
  | none => exact ⟨_, rnum_bad K r h n, rfl, Nat.le_refl _⟩
  | some L =>
    obtain ⟨hb, rfl⟩ := h
    by_cases hlt : r.s.size < n
    · refine ⟨⟨r.s, true⟩, ?_, ?_, Nat.le_refl _⟩
      · have : pnum n (bytesL r.s) = none := by unfold pnum; rw [bytesL_length, if_pos hlt]
        unfold pack_reader_num vl
        rw [hb, if_neg (by decide), Option.bind_some, decide_eq_true (by omega), if_pos rfl, Option.bind_some, this]
        rfl
      · have : pnum n (bytesL r.s) = none := by unfold pnum; rw [bytesL_length, if_pos hlt]
        unfold nx St
        rw [Option.bind_some, this]; rfl
    · obtain ⟨v, r', h1, h2, h3⟩ := rnum_spec K hK r hb hsz n hn
      have hp : pnum n (bytesL r.s) = some (val ((bytesL r.s).take n), (bytesL r.s).drop n) := by unfold pnum; rw [bytesL_length, if_neg hlt]
      rw [hp] at h2
      obtain ⟨rfl, h4, h5⟩ := h2
      refine ⟨r', ?_, ?_, h3⟩
      · rw [h1]; unfold vl; rw [Option.bind_some, hp]; rfl
      · unfold nx; rw [Option.bind_some, hp]; exact ⟨h4, h5⟩

theorem as_int (K : Nat) (xs : List Int) (h : xs.length ≤ 4294967296) (hK : xs.length < K) : pack_as_int K xs = some xs := by
  obtain ⟨t, h1⟩ := as_loop xs (pack_as_int.l0 K xs) 8 (fun m xs t => by simp only [pack_as_int.l0]) (by omega) (by omega) K hK
  unfold pack_as_int slices_Clip_int_int
  rw [h1]; simp [sl]
theorem as_pick (K : Nat) (xs : List Pick) (h : xs.length ≤ 4294967296) (hK : xs.length < K) (hb : (xs.length + 1) * 40 ≤ 140737488355328) : pack_as_api_Pick K xs = some xs := by
  obtain ⟨t, h1⟩ := as_loop xs (pack_as_api_Pick.l0 K xs) 40 (fun m xs t => by simp only [pack_as_api_Pick.l0]) hb (by omega) K hK
  unfold pack_as_api_Pick slices_Clip_api_Pick_api_Pick
  rw [h1]; simp [sl]
theorem as_node (K : Nat) (xs : List Node) (h : xs.length ≤ 4294967296) (hK : xs.length < K) (hb : (xs.length + 1) * 96 ≤ 140737488355328) : pack_as_api_Node K xs = some xs := by
  obtain ⟨t, h1⟩ := as_loop xs (pack_as_api_Node.l0 K xs) 96 (fun m xs t => by simp only [pack_as_api_Node.l0]) hb (by omega) K hK
  unfold pack_as_api_Node slices_Clip_api_Node_api_Node
  rw [h1]; simp [sl]

theorem kid_spec (K : Nat) (hK : 6 ≤ K) (r : Pack_reader) (hb : r.bad = false) (hsz : r.s.size ≤ 1099511627776) : ∃ v r', pack_kid K r = some (v, r') ∧ Out (pnum 4 (bytesL r.s)) v r' ∧ r'.s.size ≤ r.s.size := by
  obtain ⟨v, r', h1, h2, h3⟩ := rnum_spec K hK r hb hsz 4 (by omega)
  refine ⟨v, ⟨r'.s, r'.bad⟩, ?_, h2, h3⟩
  unfold pack_kid
  have : pack_reader_num K (⟨r.s, r.bad⟩ : Pack_reader) 4 = some (v, r') := h1
  rw [this]; rfl

theorem manykid_spec (K : Nat) (hK : 70000 ≤ K) (r : Pack_reader) (o : Option (List Int)) (h : St o r) (hsz : r.s.size ≤ 1099511627776) (N : Nat) (hN : N ≤ 65536) : ∃ xs r', pack_many__kid K r (N : Int) = some (xs, r') ∧ r'.s.size ≤ r.s.size ∧ xs.length ≤ N ∧ Out (o.bind (pmany (pnum 4) N)) xs r' := by
  cases o with
  | none =>
    obtain ⟨m, rfl⟩ : ∃ m, K = m + 1 := ⟨K - 1, by omega⟩
    have hb : r.bad = true := h
    refine ⟨[], ⟨r.s, true⟩, ?_, Nat.le_refl _, by simp, rfl⟩
    unfold pack_many__kid
    rw [hb, many_bad (pack_many__kid.l0 (m + 1)) (pack_kid (m + 1)) (fun m xs s b n => by simp only [pack_many__kid.l0]) m r.s N]
    rfl
  | some L =>
    obtain ⟨hb, rfl⟩ := h
    obtain ⟨xs, s, b, n, h1, h2, h3, h4⟩ := many_loop (pack_many__kid.l0 K) (pack_kid K) (pnum 4) (fun m xs s b n => by simp only [pack_many__kid.l0]) 1099511627776 (fun r hb hs => kid_spec K (by omega) r hb hs) N (by omega) r hb hsz K (by omega)
    refine ⟨xs, ⟨s, b⟩, ?_, h3, h4, h2⟩
    unfold pack_many__kid
    rw [h1]; rfl

theorem pick_spec (K : Nat) (hK : 70000 ≤ K) (r : Pack_reader) (hb : r.bad = false) (hsz : r.s.size ≤ 1099511627776) : ∃ v r', pack_pick K r = some (v, r') ∧ Out (ppick (bytesL r.s)) v r' ∧ r'.s.size ≤ r.s.size := by
  have s0 : St (some (bytesL r.s)) r := ⟨hb, rfl⟩
  obtain ⟨r1, e1, s1, z1⟩ := rnum_any K (by omega) r _ s0 hsz 2 (by omega)
  obtain ⟨r2, e2, s2, z2⟩ := rnum_any K (by omega) r1 _ s1 (by omega) 1 (by omega)
  obtain ⟨r3, e3, s3, z3⟩ := rnum_any K (by omega) r2 _ s2 (by omega) 1 (by omega)
  obtain ⟨n0, n1⟩ := vl_range 1 _ s2.byt
  obtain ⟨N, hN⟩ := Int.eq_ofNat_of_zero_le n0
  have hN1 : N < 256 := by rw [hN] at n1; have : (256 : Int) ^ 1 = 256 := rfl; omega
  obtain ⟨xs, r4, e4, z4, l4, h4⟩ := manykid_spec K hK r3 _ s3 (by omega) N (by omega)
  have e1' : pack_reader_num K (⟨r.s, r.bad⟩ : Pack_reader) 2 = some (_, r1) := e1
  have e2' : pack_reader_num K (⟨r1.s, r1.bad⟩ : Pack_reader) 1 = some (_, r2) := e2
  have e3' : pack_reader_num K (⟨r2.s, r2.bad⟩ : Pack_reader) 1 = some (_, r3) := e3
  have e4' : pack_many__kid K (⟨r3.s, r3.bad⟩ : Pack_reader) (N : Int) = some (xs, r4) := e4
  refine ⟨(⟨vl 2 (some (bytesL r.s)), vl 1 (nx 2 (some (bytesL r.s))), xs⟩ : Pick), ⟨r4.s, r4.bad⟩, ?_, ?_, by simp only; omega⟩
  · unfold pack_pick
    rw [e1', Option.bind_some, e2', Option.bind_some, e3', Option.bind_some, hN, e4', Option.bind_some, as_int K xs (by omega) (by omega), Option.bind_some]
  · have hp : ppick (bytesL r.s) = ((nx 1 (nx 1 (nx 2 (some (bytesL r.s))))).bind fun L => (pmany (pnum 4) N L).bind fun k => some (⟨vl 2 (some (bytesL r.s)), vl 1 (nx 2 (some (bytesL r.s))), k.1⟩, k.2)) := by
      show ((some (bytesL r.s)).bind ppick) = _
      unfold ppick
      simp only [chain]
      rw [hN]; rfl
    rw [hp]
    cases ho : nx 1 (nx 1 (nx 2 (some (bytesL r.s)))) with
    | none => rw [ho] at h4; exact h4
    | some L =>
      rw [ho] at h4
      simp only [Option.bind_some] at h4 ⊢
      cases hm : pmany (pnum 4) N L with
      | none => rw [hm] at h4; exact h4
      | some q =>
        rw [hm] at h4
        obtain ⟨rfl, g2, g3⟩ := h4
        exact ⟨rfl, g2, g3⟩

theorem manypick_spec (K : Nat) (hK : 70000 ≤ K) (r : Pack_reader) (o : Option (List Int)) (h : St o r) (hsz : r.s.size ≤ 1099511627776) (N : Nat) (hN : N ≤ 65536) : ∃ xs r', pack_many__pick K r (N : Int) = some (xs, r') ∧ r'.s.size ≤ r.s.size ∧ xs.length ≤ N ∧ Out (o.bind (pmany ppick N)) xs r' := by
  cases o with
  | none =>
    obtain ⟨m, rfl⟩ : ∃ m, K = m + 1 := ⟨K - 1, by omega⟩
    have hb : r.bad = true := h
    refine ⟨[], ⟨r.s, true⟩, ?_, Nat.le_refl _, by simp, rfl⟩
    unfold pack_many__pick
    rw [hb, many_bad (pack_many__pick.l0 (m + 1)) (pack_pick (m + 1)) (fun m xs s b n => by simp only [pack_many__pick.l0]) m r.s N]
    rfl
  | some L =>
    obtain ⟨hb, rfl⟩ := h
    obtain ⟨xs, s, b, n, h1, h2, h3, h4⟩ := many_loop (pack_many__pick.l0 K) (pack_pick K) ppick (fun m xs s b n => by simp only [pack_many__pick.l0]) 1099511627776 (fun r hb hs => pick_spec K hK r hb hs) N (by omega) r hb hsz K (by omega)
    refine ⟨xs, ⟨s, b⟩, ?_, h3, h4, h2⟩
    unfold pack_many__pick
    rw [h1]; rfl

theorem pnode_eq (L : List Int) : pnode L = (some L).bind pnode := rfl
theorem gnode_spec (K : Nat) (hK : 70000 ≤ K) (r : Pack_reader) (hb : r.bad = false) (hsz : r.s.size ≤ 1099511627776) : ∃ v r', pack_node K r = some (v, r') ∧ Out (pnode (bytesL r.s)) v r' ∧ r'.s.size ≤ r.s.size := by
  have s0 : St (some (bytesL r.s)) r := ⟨hb, rfl⟩
  obtain ⟨r1, e1, s1, z1⟩ := rnum_any K (by omega) r _ s0 hsz 1 (by omega)
  obtain ⟨r2, e2, s2, z2⟩ := rnum_any K (by omega) r1 _ s1 (by omega) 1 (by omega)
  obtain ⟨r3, e3, s3, z3⟩ := rnum_any K (by omega) r2 _ s2 (by omega) 2 (by omega)
  obtain ⟨r4, e4, s4, z4⟩ := rnum_any K (by omega) r3 _ s3 (by omega) 2 (by omega)
  obtain ⟨r5, e5, s5, z5⟩ := rnum_any K (by omega) r4 _ s4 (by omega) 1 (by omega)
  obtain ⟨r6, e6, s6, z6⟩ := rnum_any K (by omega) r5 _ s5 (by omega) 1 (by omega)
  obtain ⟨r7, e7, s7, z7⟩ := rnum_any K (by omega) r6 _ s6 (by omega) 1 (by omega)
  obtain ⟨r8, e8, s8, z8⟩ := rnum_any K (by omega) r7 _ s7 (by omega) 1 (by omega)
  obtain ⟨r9, e9, s9, z9⟩ := rnum_any K (by omega) r8 _ s8 (by omega) 4 (by omega)
  obtain ⟨r10, e10, s10, z10⟩ := rnum_any K (by omega) r9 _ s9 (by omega) 2 (by omega)
  obtain ⟨n0, n1⟩ := vl_range 2 _ s9.byt
  rw [pnode_eq]
  unfold pnode
  simp only [chain]
  generalize hO0 : (some (bytesL r.s) : Option (List Int)) = O0 at *
  generalize hv1 : vl 1 O0 = v1 at *
  generalize hO1 : nx 1 O0 = O1 at *
  generalize hv2 : vl 1 O1 = v2 at *
  generalize hO2 : nx 1 O1 = O2 at *
  generalize hv3 : vl 2 O2 = v3 at *
  generalize hO3 : nx 2 O2 = O3 at *
  generalize hv4 : vl 2 O3 = v4 at *
  generalize hO4 : nx 2 O3 = O4 at *
  generalize hv5 : vl 1 O4 = v5 at *
  generalize hO5 : nx 1 O4 = O5 at *
  generalize hv6 : vl 1 O5 = v6 at *
  generalize hO6 : nx 1 O5 = O6 at *
  generalize hv7 : vl 1 O6 = v7 at *
  generalize hO7 : nx 1 O6 = O7 at *
  generalize hv8 : vl 1 O7 = v8 at *
  generalize hO8 : nx 1 O7 = O8 at *
  generalize hv9 : vl 4 O8 = v9 at *
  generalize hO9 : nx 4 O8 = O9 at *
  generalize hv10 : vl 2 O9 = v10 at *
  generalize hO10 : nx 2 O9 = O10 at *
  obtain ⟨N, rfl⟩ := Int.eq_ofNat_of_zero_le n0
  have hN1 : N < 65536 := by have : (256 : Int) ^ 2 = 65536 := rfl; omega
  obtain ⟨xs, r11, e11, z11, l11, h11⟩ := manypick_spec K hK r10 _ s10 (by omega) N (by omega)
  have e1' : pack_reader_num K (⟨r.s, r.bad⟩ : Pack_reader) 1 = some (_, r1) := e1
  have e2' : pack_reader_num K (⟨r1.s, r1.bad⟩ : Pack_reader) 1 = some (_, r2) := e2
  have e3' : pack_reader_num K (⟨r2.s, r2.bad⟩ : Pack_reader) 2 = some (_, r3) := e3
  have e4' : pack_reader_num K (⟨r3.s, r3.bad⟩ : Pack_reader) 2 = some (_, r4) := e4
  have e5' : pack_reader_num K (⟨r4.s, r4.bad⟩ : Pack_reader) 1 = some (_, r5) := e5
  have e6' : pack_reader_num K (⟨r5.s, r5.bad⟩ : Pack_reader) 1 = some (_, r6) := e6
  have e7' : pack_reader_num K (⟨r6.s, r6.bad⟩ : Pack_reader) 1 = some (_, r7) := e7
  have e8' : pack_reader_num K (⟨r7.s, r7.bad⟩ : Pack_reader) 1 = some (_, r8) := e8
  have e9' : pack_reader_num K (⟨r8.s, r8.bad⟩ : Pack_reader) 4 = some (_, r9) := e9
  have e10' : pack_reader_num K (⟨r9.s, r9.bad⟩ : Pack_reader) 2 = some (_, r10) := e10
  have e11' : pack_many__pick K (⟨r10.s, r10.bad⟩ : Pack_reader) (N : Int) = some (xs, r11) := e11
  unfold pack_node
  rw [e1', Option.bind_some, e2', Option.bind_some, e3', Option.bind_some, e4', Option.bind_some, e5', Option.bind_some, e6', Option.bind_some, e7', Option.bind_some, e8', Option.bind_some, e9', Option.bind_some, e10', Option.bind_some, e11', Option.bind_some, as_pick K xs (by omega) (by omega) (by omega), Option.bind_some]
  simp only
  have hbad : r11.bad = true → (∃ v r', (if r11.bad = true then some ((⟨decide (v1 = 1), v2, v3, ⟨v4, v5, v6⟩, v7, v8, v9, xs⟩ : Node), (⟨r11.s, true⟩ : Pack_reader)) else if 1 < v1 then some ((⟨decide (v1 = 1), v2, v3, ⟨v4, v5, v6⟩, v7, v8, v9, xs⟩ : Node), (⟨r11.s, true⟩ : Pack_reader)) else (pack_shape K (⟨decide (v1 = 1), v2, v3, ⟨v4, v5, v6⟩, v7, v8, v9, xs⟩ : Node)).bind fun r_30 => some ((⟨decide (v1 = 1), v2, v3, ⟨v4, v5, v6⟩, v7, v8, v9, xs⟩ : Node), (⟨r11.s, !r_30⟩ : Pack_reader))) = some (v, r') ∧ Out (T := Node) none v r' ∧ r'.s.size ≤ r.s.size) := by
    intro hb
    rw [if_pos hb]
    exact ⟨_, _, rfl, rfl, by simp only; omega⟩
  cases O10 with
  | none => exact hbad h11
  | some L =>
    simp only [Option.bind_some, Int.toNat_natCast] at h11 ⊢
    cases hm : pmany ppick N L with
    | none => rw [hm] at h11; exact hbad h11
    | some q =>
      rw [hm] at h11
      obtain ⟨rfl, g2, g3⟩ := h11
      simp only [Option.bind_some]
      rw [g2, if_neg (by decide)]
      by_cases hv : 1 < v1
      · have ht : nodeT v1 ⟨sg v1, v2, v3, ⟨v4, v5, v6⟩, v7, v8, v9, q.1⟩ = false := by unfold nodeT; rw [decide_eq_false]; exact fun h => by have := h.1; omega
        rw [if_pos hv, ht]
        exact ⟨_, _, rfl, rfl, by simp only; omega⟩
      · rw [if_neg hv]
        obtain ⟨b, b1, b2⟩ := shape_spec K (⟨decide (v1 = 1), v2, v3, ⟨v4, v5, v6⟩, v7, v8, v9, q.1⟩ : Node)
        rw [b1, Option.bind_some]
        refine ⟨_, _, rfl, ?_, by simp only; omega⟩
        cases b with
        | true =>
          have ht : nodeT v1 ⟨sg v1, v2, v3, ⟨v4, v5, v6⟩, v7, v8, v9, q.1⟩ = true := by unfold nodeT; rw [decide_eq_true]; exact ⟨by omega, b2.1 rfl⟩
          rw [ht]; exact ⟨rfl, rfl, g3⟩
        | false =>
          have ht : nodeT v1 ⟨sg v1, v2, v3, ⟨v4, v5, v6⟩, v7, v8, v9, q.1⟩ = false := by unfold nodeT; rw [decide_eq_false]; exact fun h => by have := b2.2 h.2; cases this
          rw [ht]; exact rfl

theorem manynode_spec (K : Nat) (hK : 70000 ≤ K) (r : Pack_reader) (o : Option (List Int)) (h : St o r) (hsz : r.s.size ≤ 1099511627776) (N : Nat) (hN : N ≤ 4294967296) (hN' : o = none ∨ N ≤ 65536) : ∃ xs r', pack_many__node K r (N : Int) = some (xs, r') ∧ xs.length ≤ 65536 ∧ Out (o.bind (pmany pnode N)) xs r' := by
  cases o with
  | none =>
    obtain ⟨m, rfl⟩ : ∃ m, K = m + 1 := ⟨K - 1, by omega⟩
    have hb : r.bad = true := h
    refine ⟨[], ⟨r.s, true⟩, ?_, by simp, rfl⟩
    unfold pack_many__node
    rw [hb, many_bad (pack_many__node.l0 (m + 1)) (pack_node (m + 1)) (fun m xs s b n => by simp only [pack_many__node.l0]) m r.s N]
    rfl
  | some L =>
    have hN'' : N ≤ 65536 := hN'.resolve_left (by simp)
    obtain ⟨hb, rfl⟩ := h
    obtain ⟨xs, s, b, n, h1, h2, h3, h4⟩ := many_loop (pack_many__node.l0 K) (pack_node K) pnode (fun m xs s b n => by simp only [pack_many__node.l0]) 1099511627776 (fun r hb hs => gnode_spec K hK r hb hs) N (by omega) r hb hsz K (by omega)
    refine ⟨xs, ⟨s, b⟩, ?_, by omega, h2⟩
    unfold pack_many__node
    rw [h1]; rfl

theorem cut_spec (K : Nat) (s : ByteArray) : strings_CutPrefix K s (⟨#[84, 67]⟩ : ByteArray) = some (if (bytesL s).take 2 = [84, 67] then (sls s 2 s.size, true) else (s, false)) := by
  have h84 : (⟨#[84, 67]⟩ : ByteArray) = strL [84, 67] := by decide
  have hb : Byt [84, 67] := by intro v hv; simp at hv; rcases hv with rfl | rfl <;> decide
  have hl := bytesL_length s
  unfold strings_CutPrefix internal_stringslite_CutPrefix internal_stringslite_HasPrefix
  rw [h84]
  have hz : ((strL [84, 67]).size : Int) = 2 := by rw [strL_size]; rfl
  simp only [hz]
  by_cases h2 : 2 ≤ s.size
  · rw [if_pos (by omega)]
    have hq : (sls s 0 2 = strL [84, 67]) ↔ (bytesL s).take 2 = [84, 67] := by
      have e := bytesL_sls s 0 2
      simp only [Int.toNat_zero, List.drop_zero] at e
      constructor
      · intro h; rw [h, byt_back hb] at e; exact e.symm
      · intro h
        have : strL (bytesL (sls s 0 2)) = strL [84, 67] := by rw [e]; exact congrArg strL h
        rwa [strL_bytesL] at this
    by_cases hp : (bytesL s).take 2 = [84, 67]
    · have := hq.2 hp
      rw [if_pos hp]
      simp only [Option.bind_some]
      rw [decide_eq_true this, if_neg (by decide), if_pos (by omega)]
      rfl
    · have : ¬ sls s 0 2 = strL [84, 67] := fun h => hp (hq.1 h)
      rw [if_neg hp]
      simp only [Option.bind_some]
      rw [decide_eq_false this, if_pos (by decide)]
      rfl
  · have hn : ¬ (bytesL s).take 2 = [84, 67] := by
      intro h
      have := congrArg List.length h
      rw [List.length_take] at this
      simp at this
      omega
    rw [if_neg hn, if_neg (by omega)]
    rfl

theorem Get_spec (K : Nat) (hK : 70000 ≤ K) (s : ByteArray) : pack_Get K s = some (getR (bytesL s)) := by
  have hl := bytesL_length s
  unfold pack_Get getR
  by_cases hbig : 1048576 < s.size
  · rw [if_pos (by omega), if_pos (by omega)]
  · rw [if_neg (by omega), if_neg (by omega), cut_spec, Option.bind_some]
    obtain ⟨r0, o0, hr0, s0, z0, hcert⟩ : ∃ (r0 : Pack_reader) (o0 : Option (List Int)), (⟨(if (bytesL s).take 2 = [84, 67] then (sls s 2 s.size, true) else (s, false)).1, !(if (bytesL s).take 2 = [84, 67] then (sls s 2 s.size, true) else (s, false)).2⟩ : Pack_reader) = r0 ∧ St o0 r0 ∧ r0.s.size ≤ 1099511627776 ∧ pcert (bytesL s) = (o0.bind fun L => (pnum 4 L).bind fun r => (pnum 4 r.2).bind fun n => bif decide (n.1 ≤ 65536) then (pmany pnode n.1.toNat n.2).bind fun q => some (⟨r.1, q.1⟩, q.2) else none) := by
      by_cases hp : (bytesL s).take 2 = [84, 67]
      · have hls : bytesL (sls s 2 s.size) = (bytesL s).drop 2 := by
          rw [bytesL_sls, Int.toNat_natCast, ← bytesL_length, List.take_length]; rfl
        refine ⟨_, some ((bytesL s).drop 2), rfl, ?_, ?_, ?_⟩
        · rw [if_pos hp]; exact ⟨rfl, hls⟩
        · rw [if_pos hp]
          have := congrArg List.length hls
          rw [bytesL_length, List.length_drop] at this
          simp only; omega
        · unfold pcert; rw [if_pos hp]; rfl
      · refine ⟨_, none, rfl, ?_, ?_, ?_⟩
        · rw [if_neg hp]; rfl
        · rw [if_neg hp]; simp only; omega
        · unfold pcert; rw [if_neg hp]; rfl
    rw [hr0, hcert]
    obtain ⟨r1, e1, s1, z1⟩ := rnum_any K (by omega) r0 o0 s0 z0 4 (by omega)
    obtain ⟨r2, e2, s2, z2⟩ := rnum_any K (by omega) r1 _ s1 (by omega) 4 (by omega)
    obtain ⟨n0, n1⟩ := vl_range 4 _ s1.byt
    simp only [chain]
    generalize hv1 : vl 4 o0 = v1 at *
    generalize hO1 : nx 4 o0 = O1 at *
    generalize hv2 : vl 4 O1 = v2 at *
    generalize hO2 : nx 4 O1 = O2 at *
    obtain ⟨N, rfl⟩ := Int.eq_ofNat_of_zero_le n0
    have hN1 : N < 4294967296 := by have : (256 : Int) ^ 4 = 4294967296 := rfl; omega
    have e2' : pack_reader_num K (⟨r1.s, r1.bad⟩ : Pack_reader) 4 = some (_, r2) := e2
    rw [show pack_reader_num K r0 4 = some (v1, r1) from e1, Option.bind_some, e2', Option.bind_some]
    have hc : (if r2.bad = true then some true else some (decide ((65536 : Int) < (N : Int)))) = some (decide (r2.bad = true ∨ 65536 < N)) := by
      have hd : decide ((65536 : Int) < (N : Int)) = decide (65536 < N) := decide_eq_decide.2 (by omega)
      rw [hd]
      cases r2.bad <;> simp
    rw [hc, Option.bind_some]
    have s3 : St (if 65536 < N then none else O2) (⟨r2.s, decide (r2.bad = true ∨ 65536 < N)⟩ : Pack_reader) := by
      by_cases hN2 : 65536 < N
      · rw [if_pos hN2]; simp [St, hN2]
      · rw [if_neg hN2]
        cases O2 with
        | none => have : r2.bad = true := s2
                  simp [St, this]
        | some L =>
          obtain ⟨g1, g2⟩ := s2
          exact ⟨by simp [g1, hN2], g2⟩
    obtain ⟨xs, r3, e3, l3, h3⟩ := manynode_spec K hK _ _ s3 (by simp only; omega) N (by omega) (by
      by_cases hN2 : 65536 < N
      · left; rw [if_pos hN2]
      · right; omega)
    rw [e3, Option.bind_some, as_node K xs (by omega) (by omega) (by omega), Option.bind_some]
    simp only
    by_cases hN2 : 65536 < N
    · rw [if_pos hN2] at h3
      have h3' : r3.bad = true := h3
      rw [if_pos h3']
      cases O2 with
      | none => rfl
      | some L => simp only [Option.bind_some]; rw [decide_eq_false (by omega)]; rfl
    · rw [if_neg hN2] at h3
      cases O2 with
      | none =>
        have h3' : r3.bad = true := h3
        rw [if_pos h3']; rfl
      | some L =>
        simp only [Option.bind_some, Int.toNat_natCast] at h3 ⊢
        rw [decide_eq_true (by omega), cond_true]
        cases hm : pmany pnode N L with
        | none =>
          rw [hm] at h3
          have h3' : r3.bad = true := h3
          rw [if_pos h3']; rfl
        | some q =>
          rw [hm] at h3
          obtain ⟨rfl, g2, g3⟩ := h3
          rw [g2, if_neg (by decide)]
          simp only [Option.bind_some]
          have hne : (r3.s ≠ (⟨#[]⟩ : ByteArray)) ↔ q.2 ≠ [] := by
            rw [← g3]
            constructor
            · intro h h'; apply h; rw [← strL_bytesL r3.s, h']; rfl
            · intro h h'; apply h; rw [h']; rfl
          cases hq : q.2 with
          | nil =>
            rw [if_neg (fun h => hne.1 h hq)]
          | cons a l =>
            rw [if_pos (hne.2 (by rw [hq]; simp))]
end Go.Proofs.Ytokccimmgilciaa
