/-
  What the reference's Put comes to, in plain Lean, the end. Own work; no claim stands here.
-/
import Derived.Test.YtokccimmgilciaaPPackC
namespace Go.Proofs.Ytokccimmgilciaa
open S
set_option linter.unusedVariables false
set_option linter.unusedSimpArgs false
set_option maxRecDepth 100000

/-- Bounds under which the reference's loops end. -/
structure PR (K : Nat) (c : Cert) : Prop where
  n : c.Nodes.length < K ∧ c.Nodes.length ≤ 140737488355328
  p : ∀ x ∈ c.Nodes, x.Picks.length < K ∧ x.Picks.length ≤ 140737488355328
  k : ∀ x ∈ c.Nodes, ∀ p ∈ x.Picks, p.Kids.length < K ∧ p.Kids.length ≤ 140737488355328

theorem certB_len (c : Cert) : (certB c).length = 10 + (nodesB c.Nodes).length := by simp [certB, B4]; omega
theorem nodesB_mono (xs : List Node) (i : Nat) : (nodesB (xs.take i)).length ≤ (nodesB xs).length := by
  have : nodesB xs = nodesB (xs.take i) ++ nodesB (xs.drop i) := by
    unfold nodesB
    rw [← List.flatten_append, ← List.map_append, List.take_append_drop]
  rw [this, List.length_append]; omega
theorem nodeB_len (x : Node) : (nodeB x).length = 16 + (picksB x.Picks).length := by rw [nodeB, List.length_append, headB_len]

theorem size_l1 (K : Nat) (c : Cert) (i : Nat) (ps : List Pick) (hps : (rd c.Nodes (i : Int)).Picks = ps) (hl : ps.length ≤ 140737488355328) (hk : ∀ p ∈ ps, p.Kids.length ≤ 140737488355328) (k0 : Nat) (h0 : k0 ≤ 1048592) (m : Nat) (hm : ps.length < m) :
    ∃ r, templeref18_size.l1 K c i m ((k0 : Int), 0) = some r ∧ ∃ k : Nat, r.1 = k ∧ k ≤ 562949954470000 ∧ (k = k0 + (picksB ps).length ∨ (1048576 < k ∧ k ≤ k0 + (picksB ps).length)) := by
  refine rounds (L := templeref18_size.l1 K c i) (fun s => ∃ j k : Nat, s.1 = k ∧ s.2 = j ∧ j ≤ ps.length ∧ k ≤ 562949954470000 ∧ k = k0 + (picksB (ps.take j)).length) (fun s => ps.length - s.2.toNat) _ (fun s m hI => ?_) m ((k0 : Int), 0) ⟨0, k0, rfl, rfl, by omega, by omega, by simp [picksB]⟩ (by simp only [Int.toNat_zero]; omega)
  obtain ⟨k', j'⟩ := s
  obtain ⟨j, k, rfl, rfl, hj, hkb, hk'⟩ := hI
  have hmono := picksB_mono ps j
  simp only [templeref18_size.l1, hps]
  rw [if_pos (Int.natCast_nonneg i)]
  by_cases hlt : (j : Int) < ps.length
  · have hlt' : j < ps.length := by omega
    rw [if_pos hlt]
    by_cases hle : (k : Int) ≤ 1048576
    · have hkk := hk _ (rd_mem (Int.natCast_nonneg j) hlt)
      have ht := picksB_take hlt'
      have e : IntKind.wrap .i64 ((IntKind.wrap .i64 ((k : Int) + 4)) + (IntKind.wrap .i64 (4 * ((rd ps (j : Int)).Kids.length : Int)))) = ((k + (4 + 4 * (rd ps (j : Int)).Kids.length) : Nat) : Int) := by
        rw [wr (a := (k : Int) + 4) (by omega) (by omega), wr (a := 4 * ((rd ps (j : Int)).Kids.length : Int)) (by omega) (by omega), wr (by omega) (by omega)]; omega
      rw [if_pos hle, if_pos (Int.natCast_nonneg j), e, wr (a := (j : Int) + 1) (by omega) (by omega)]
      exact .inr ⟨(((k + (4 + 4 * (rd ps (j : Int)).Kids.length) : Nat) : Int), (j : Int) + 1), ⟨j + 1, k + (4 + 4 * (rd ps (j : Int)).Kids.length), rfl, by simp, by omega, by omega, by rw [ht, List.length_append, pickB_len]; omega⟩, by simp only; omega, rfl⟩
    · rw [if_neg hle]
      exact .inl ⟨_, rfl, k, rfl, hkb, .inr ⟨by omega, by omega⟩⟩
  · have : j = ps.length := by omega
    subst this
    rw [if_neg hlt]
    rw [List.take_length] at hk'
    exact .inl ⟨_, rfl, k, rfl, hkb, .inl hk'⟩

theorem size_spec (K : Nat) (c : Cert) (hb : PR K c) : ∃ k : Nat, templeref18_size K c = some (k : Int) ∧ (1048576 < k ↔ 1048576 < (certB c).length) := by
  have h64 := hb.n.2
  have := rounds (L := templeref18_size.l0 K c) (fun s => ∃ i k : Nat, s.1 = k ∧ s.2 = i ∧ i ≤ c.Nodes.length ∧ (k = 10 + (nodesB (c.Nodes.take i)).length ∨ (1048576 < k ∧ k ≤ 10 + (nodesB (c.Nodes.take i)).length))) (fun s => c.Nodes.length - s.2.toNat) (fun r => ∃ k : Nat, r.1 = k ∧ (1048576 < k ↔ 1048576 < (certB c).length)) (fun s m hI => ?_) K ((10 : Int), 0) ⟨0, 10, rfl, rfl, by omega, .inl (by simp [nodesB])⟩ (by simp only [Int.toNat_zero]; have := hb.n.1; omega)
  · obtain ⟨⟨k', i⟩, h1, k, rfl, h2⟩ := this
    exact ⟨k, by unfold templeref18_size; rw [h1]; rfl, h2⟩
  obtain ⟨k', i'⟩ := s
  obtain ⟨i, k, rfl, rfl, hi, hk⟩ := hI
  have hmono := nodesB_mono c.Nodes i
  simp only [templeref18_size.l0]
  have hc := certB_len c
  by_cases hlt : (i : Int) < c.Nodes.length
  · have hlt' : i < c.Nodes.length := by omega
    rw [if_pos hlt]
    by_cases hle : (k : Int) ≤ 1048576
    · have hmem := rd_mem (Int.natCast_nonneg i) hlt
      have hke : k = 10 + (nodesB (c.Nodes.take i)).length := by omega
      obtain ⟨r, h1, k2, h2, h3, h4⟩ := size_l1 K c i _ rfl (hb.p _ hmem).2 (fun p hp => (hb.k _ hmem p hp).2) (k + 16) (by omega) K (hb.p _ hmem).1
      have e : IntKind.wrap .i64 ((k : Int) + 16) = ((k + 16 : Nat) : Int) := by rw [wr (by omega) (by omega)]; simp
      rw [if_pos hle, e, h1, Option.bind_some, wr (a := (i : Int) + 1) (by omega) (by omega)]
      obtain ⟨t1, _⟩ := nodesB_take hlt'
      refine .inr ⟨(r.1, (i : Int) + 1), ⟨i + 1, k2, h2, by simp, by omega, ?_⟩, by simp only; omega, rfl⟩
      rw [t1, List.length_append, nodeB_len]
      omega
    · rw [if_neg hle]
      exact .inl ⟨_, rfl, k, rfl, by omega⟩
  · have : i = c.Nodes.length := by omega
    subst this
    rw [if_neg hlt]
    rw [List.take_length] at hk
    exact .inl ⟨_, rfl, k, rfl, by omega⟩

theorem byt_kids {ks : List Int} (h : ∀ k ∈ ks, F4 k) : Byt (kidsB ks) := by
  intro v hv
  obtain ⟨l, hl, hv⟩ := List.mem_flatten.1 hv
  obtain ⟨k, hk, rfl⟩ := List.mem_map.1 hl
  exact byt4 (h k hk) v hv
theorem byt_pick {p : Pick} (h : pickOk p) : Byt (pickB p) := (byt2 h.1).app ((byt1 h.2.1).app ((byt1 h.2.2.1).app (byt_kids h.2.2.2)))
theorem byt_picks {ps : List Pick} (h : ∀ p ∈ ps, pickOk p) : Byt (picksB ps) := by
  intro v hv
  obtain ⟨l, hl, hv⟩ := List.mem_flatten.1 hv
  obtain ⟨p, hp, rfl⟩ := List.mem_map.1 hl
  exact byt_pick (h p hp) v hv
theorem bit_F (b : Bool) : F1 (if b = true then 1 else 0) := by split <;> exact ⟨by decide, by decide⟩
theorem byt_head {x : Node} (h : headOk x) : Byt (headB x) := by
  obtain ⟨b1, b2, b3, b4, b5, b6, b7, b8, b9⟩ := h
  exact (byt1 (bit_F _)).app ((byt1 b1).app ((byt2 b2).app ((byt2 b3).app ((byt1 b4).app ((byt1 b5).app ((byt1 b6).app ((byt1 b7).app ((byt4 b8).app (byt2 b9)))))))))
theorem byt_node {x : Node} (h : nodeOk x) : Byt (nodeB x) := (byt_head h.2.1).app (byt_picks h.2.2)
theorem byt_nodes {xs : List Node} (h : ∀ x ∈ xs, nodeOk x) : Byt (nodesB xs) := by
  intro v hv
  obtain ⟨l, hl, hv⟩ := List.mem_flatten.1 hv
  obtain ⟨p, hp, rfl⟩ := List.mem_map.1 hl
  exact byt_node (h p hp) v hv

theorem RPut_l3 (K : Nat) (hK : 6 ≤ K) (c : Cert) (i j : Int) (ks : List Int) (hks : (rd ((rd c.Nodes i).Picks) j).Kids = ks) (hf : ∀ k ∈ ks, F4 k) (xs0 : List Int) (hl : xs0.length + (kidsB ks).length ≤ 1048576) (m : Nat) (hm : ks.length < m) :
    ∃ t, templeref18_Put.l3 K c i j m (xs0, 0) = some (xs0 ++ kidsB ks, t) := by
  have := rounds (L := templeref18_Put.l3 K c i j) (fun s => ∃ k : Nat, s.2 = k ∧ k ≤ ks.length ∧ s.1 = xs0 ++ kidsB (ks.take k)) (fun s => ks.length - s.2.toNat) (fun r => r.1 = xs0 ++ kidsB ks) (fun s m hI => ?_) m (xs0, 0) ⟨0, rfl, by omega, by simp [kidsB]⟩ (by simp only [Int.toNat_zero]; omega)
  · obtain ⟨⟨xs, t⟩, h1, h2⟩ := this
    exact ⟨t, by rw [h1]; simp only at h2; rw [h2]⟩
  obtain ⟨xs, k'⟩ := s
  obtain ⟨k, rfl, hk, hx⟩ := hI
  simp only at hx
  rw [kidsB_len] at hl
  simp only [templeref18_Put.l3, hks]
  by_cases hlt : (k : Int) < ks.length
  · have hlt' : k < ks.length := by omega
    have hF := hf _ (rd_mem (Int.natCast_nonneg k) hlt)
    have hxl : xs.length = xs0.length + 4 * k := by rw [hx, List.length_append, kidsB_len, List.length_take]; omega
    have e : ks.take (k + 1) = ks.take k ++ [rd ks (k : Int)] := by
      rw [List.take_add_one, rd_nat]
      simp [List.getD_eq_getElem?_getD, hlt']
    rw [if_pos hlt, if_pos (Int.natCast_nonneg k), be4 K hK _ hF, Option.bind_some, if_pos (by rw [strL_size]; simp only [B4, List.length_cons, List.length_nil]; omega), byt_back (byt4 hF), wr (a := (k : Int) + 1) (by omega) (by omega)]
    exact .inr ⟨(xs ++ B4 (rd ks (k : Int)), (k : Int) + 1), ⟨k + 1, by simp, by omega, by simp only; rw [hx, e]; simp [kidsB]⟩, by simp only; omega, rfl⟩
  · have : k = ks.length := by omega
    subst this
    rw [if_neg hlt]
    exact .inl ⟨_, rfl, by simpa using hx⟩

theorem RPut_l2 (K : Nat) (hK : 6 ≤ K) (c : Cert) (i : Int) (ps : List Pick) (hps : (rd c.Nodes i).Picks = ps) (hf : ∀ p ∈ ps, pickOk p) (hk : ∀ p ∈ ps, p.Kids.length < K) (xs0 : List Int) (hl : xs0.length + (picksB ps).length ≤ 1048576) (m : Nat) (hm : ps.length < m) (hp64 : ps.length ≤ 140737488355328) :
    ∃ t, templeref18_Put.l2 K c i m (xs0, 0) = some (xs0 ++ picksB ps, t) := by
  have := rounds (L := templeref18_Put.l2 K c i) (fun s => ∃ k : Nat, s.2 = k ∧ k ≤ ps.length ∧ s.1 = xs0 ++ picksB (ps.take k)) (fun s => ps.length - s.2.toNat) (fun r => r.1 = xs0 ++ picksB ps) (fun s m hI => ?_) m (xs0, 0) ⟨0, rfl, by omega, by simp [picksB]⟩ (by simp only [Int.toNat_zero]; omega)
  · obtain ⟨⟨xs, t⟩, h1, h2⟩ := this
    exact ⟨t, by rw [h1]; simp only at h2; rw [h2]⟩
  obtain ⟨xs, k'⟩ := s
  obtain ⟨k, rfl, hkk, hx⟩ := hI
  simp only at hx
  simp only [templeref18_Put.l2, hps]
  by_cases hlt : (k : Int) < ps.length
  · have hlt' : k < ps.length := by omega
    have hmem := rd_mem (Int.natCast_nonneg k) hlt
    obtain ⟨f1, f2, f3, f4⟩ := hf _ hmem
    have ht := picksB_take hlt'
    have hmono := picksB_mono ps (k + 1)
    rw [ht, List.length_append, pickB_len] at hmono
    have hxl : xs.length = xs0.length + (picksB (ps.take k)).length := by rw [hx, List.length_append]
    have hby : Byt (B2 (rd ps (k : Int)).At ++ B1 (rd ps (k : Int)).Conj ++ B1 ((rd ps (k : Int)).Kids.length : Int)) := ((byt2 f1).app (byt1 f2)).app (byt1 f3)
    have s1 : (B2 (rd ps (k : Int)).At).length = 2 := rfl
    have s2 : (B1 (rd ps (k : Int)).Conj).length = 1 := rfl
    have s3 : (B1 ((rd ps (k : Int)).Kids.length : Int)).length = 1 := rfl
    obtain ⟨t, h3⟩ := RPut_l3 K hK c i k (rd ps (k : Int)).Kids (by rw [hps]) f4 (xs ++ (B2 (rd ps (k : Int)).At ++ B1 (rd ps (k : Int)).Conj ++ B1 ((rd ps (k : Int)).Kids.length : Int))) (by rw [kidsB_len]; simp only [List.length_append, s1, s2, s3]; omega) K (hk _ hmem)
    rw [if_pos hlt, if_pos (Int.natCast_nonneg k), be2 K hK _ f1, Option.bind_some, be1 K hK _ f2, Option.bind_some, if_pos (by simp only [strL_size, s1, s2]; omega), be1 K hK _ f3, Option.bind_some, strL_app, if_pos (by simp only [strL_size, List.length_append, s1, s2, s3]; omega), strL_app, if_pos (by simp only [strL_size, List.length_append, s1, s2, s3]; omega), byt_back hby, h3, Option.bind_some, wr (a := (k : Int) + 1) (by omega) (by omega)]
    refine .inr ⟨(_, (k : Int) + 1), ⟨k + 1, by simp, by omega, ?_⟩, by simp only; omega, rfl⟩
    simp only
    rw [hx, ht]
    simp [pickB]
  · have : k = ps.length := by omega
    subst this
    rw [if_neg hlt]
    exact .inl ⟨_, rfl, by simpa using hx⟩

theorem RPut_l1 (K : Nat) (hK : 6 ≤ K) (c : Cert) (hb : PR K c) (hf : ∀ x ∈ c.Nodes, nodeOk x) (xs0 : List Int) (hl : xs0.length + (nodesB c.Nodes).length ≤ 1048576) (m : Nat) (hm : c.Nodes.length < m) :
    ∃ t, templeref18_Put.l1 K c m (xs0, 0) = some (xs0 ++ nodesB c.Nodes, t) := by
  have h64 := hb.n.2
  have := rounds (L := templeref18_Put.l1 K c) (fun s => ∃ k : Nat, s.2 = k ∧ k ≤ c.Nodes.length ∧ s.1 = xs0 ++ nodesB (c.Nodes.take k)) (fun s => c.Nodes.length - s.2.toNat) (fun r => r.1 = xs0 ++ nodesB c.Nodes) (fun s m hI => ?_) m (xs0, 0) ⟨0, rfl, by omega, by simp [nodesB]⟩ (by simp only [Int.toNat_zero]; omega)
  · obtain ⟨⟨xs, t⟩, h1, h2⟩ := this
    exact ⟨t, by rw [h1]; simp only at h2; rw [h2]⟩
  obtain ⟨xs, k'⟩ := s
  obtain ⟨k, rfl, hkk, hx⟩ := hI
  simp only at hx
  simp only [templeref18_Put.l1]
  by_cases hlt : (k : Int) < c.Nodes.length
  · have hlt' : k < c.Nodes.length := by omega
    have hmem := rd_mem (Int.natCast_nonneg k) hlt
    obtain ⟨f0, hh, fp⟩ := hf _ hmem
    obtain ⟨b1, b2, b3, b4, b5, b6, b7, b8, b9⟩ := hh
    obtain ⟨ht, _⟩ := nodesB_take hlt'
    have hmono := nodesB_mono c.Nodes (k + 1)
    rw [ht, List.length_append, nodeB_len] at hmono
    have hxl : xs.length = xs0.length + (nodesB (c.Nodes.take k)).length := by rw [hx, List.length_append]
    have hbit : templeref18_bit K (rd c.Nodes (k : Int)).Sign = some (if (rd c.Nodes (k : Int)).Sign = true then 1 else 0) := by unfold templeref18_bit; split <;> rfl
    have L1 : ∀ x : Int, (B1 x).length = 1 := fun _ => rfl
    have L2 : ∀ x : Int, (B2 x).length = 2 := fun _ => rfl
    have L4 : ∀ x : Int, (B4 x).length = 4 := fun _ => rfl
    have hb0 := bit_F (rd c.Nodes (k : Int)).Sign
    have e1 := be1 K hK _ hb0
    rw [if_pos hlt, if_pos (Int.natCast_nonneg k), hbit, Option.bind_some, e1, Option.bind_some, be1 K hK _ b1, Option.bind_some, if_pos (by simp only [strL_size, L1]; omega), be2 K hK _ b2, Option.bind_some, strL_app, if_pos (by simp only [strL_size, List.length_append, L1, L2]; omega),
      be2 K hK _ b3, Option.bind_some, strL_app, if_pos (by simp only [strL_size, List.length_append, L1, L2]; omega), be1 K hK _ b4, Option.bind_some, strL_app, if_pos (by simp only [strL_size, List.length_append, L1, L2]; omega), be1 K hK _ b5, Option.bind_some, strL_app, if_pos (by simp only [strL_size, List.length_append, L1, L2]; omega),
      be1 K hK _ b6, Option.bind_some, strL_app, if_pos (by simp only [strL_size, List.length_append, L1, L2]; omega), be1 K hK _ b7, Option.bind_some, strL_app, if_pos (by simp only [strL_size, List.length_append, L1, L2]; omega), be4 K hK _ b8, Option.bind_some, strL_app, if_pos (by simp only [strL_size, List.length_append, L1, L2, L4]; omega),
      be2 K hK _ b9, Option.bind_some, strL_app, if_pos (by simp only [strL_size, List.length_append, L1, L2, L4]; omega), strL_app, if_pos (by simp only [strL_size, List.length_append, L1, L2, L4]; omega)]
    have hbyt := byt_head (x := rd c.Nodes (k : Int)) ⟨b1, b2, b3, b4, b5, b6, b7, b8, b9⟩
    have hassoc : B1 (if (rd c.Nodes (k : Int)).Sign = true then 1 else 0) ++ B1 (rd c.Nodes (k : Int)).Kind ++ B2 (rd c.Nodes (k : Int)).Name ++ B2 (rd c.Nodes (k : Int)).Place.Rule ++ B1 (rd c.Nodes (k : Int)).Place.Conj ++ B1 (rd c.Nodes (k : Int)).Place.Pos ++ B1 (rd c.Nodes (k : Int)).I ++ B1 (rd c.Nodes (k : Int)).J ++ B4 (rd c.Nodes (k : Int)).Rank ++ B2 ((rd c.Nodes (k : Int)).Picks.length : Int) = headB (rd c.Nodes (k : Int)) := by simp [headB]
    rw [hassoc, byt_back hbyt]
    obtain ⟨t, h3⟩ := RPut_l2 K hK c k (rd c.Nodes (k : Int)).Picks rfl fp (fun p hp => (hb.k _ hmem p hp).1) (xs ++ headB (rd c.Nodes (k : Int))) (by rw [List.length_append, headB_len]; omega) K (hb.p _ hmem).1 (hb.p _ hmem).2
    rw [h3, Option.bind_some, wr (a := (k : Int) + 1) (by omega) (by omega)]
    refine .inr ⟨(_, (k : Int) + 1), ⟨k + 1, by simp, by omega, ?_⟩, by simp only; omega, rfl⟩
    simp only
    rw [hx, ht]
    simp [nodeB]
  · have : k = c.Nodes.length := by omega
    subst this
    rw [if_neg hlt]
    exact .inl ⟨_, rfl, by simpa using hx⟩

theorem RPut_spec (K : Nat) (hK : 20 ≤ K) (c : Cert) (hb : PR K c) : ∃ r, templeref18_Put K c = some r ∧ PutIs c r := by
  have h64 := hb.n.2
  unfold templeref18_Put
  rw [fit4, Option.bind_some]
  by_cases hr : F4 c.Root
  case neg =>
    rw [decide_eq_false hr]
    exact ⟨_, rfl, .inl ⟨fun h => hr h.1, rfl⟩⟩
  rw [decide_eq_true hr, if_neg (by decide)]
  obtain ⟨r, h1, h2, h3⟩ := all_loop c.Nodes.length (templeref18_Put.l0 K c) ((⟨#[]⟩ : ByteArray), (1800 : Int)) (fun i => nodeOk (rd c.Nodes (i : Int))) (fun m i hi => by
    have hmem : rd c.Nodes (i : Int) ∈ c.Nodes := rd_mem (Int.natCast_nonneg i) (by omega)
    obtain ⟨b, b1, b2⟩ := nodeMay_spec K (rd c.Nodes (i : Int)) (hb.p _ hmem).1 (by have := (hb.p _ hmem).2; omega) (fun p hp => ⟨(hb.k _ hmem p hp).1, by have := (hb.k _ hmem p hp).2; omega⟩)
    refine ⟨b, b2, ?_⟩
    simp only [templeref18_Put.l0]
    rw [if_pos (by omega), if_pos (Int.natCast_nonneg i), b1, Option.bind_some, wr (a := (i : Int) + 1) (by omega) (by omega)]
    cases b <;> simp) (fun m => by simp only [templeref18_Put.l0]; rw [if_neg (by omega)]) K hb.n.1
  rw [all_mem (Q := nodeOk)] at h2 h3
  rw [h1]
  by_cases hall : ∀ x ∈ c.Nodes, nodeOk x
  case neg =>
    rw [h3 hall]
    exact ⟨_, rfl, .inl ⟨fun h => hall h.2, rfl⟩⟩
  rw [h2 hall]
  simp only [brk, Option.bind_some]
  by_cases hn : (65536 : Int) < (c.Nodes.length : Int)
  · rw [if_pos hn]
    exact ⟨_, rfl, .inr (.inl ⟨⟨hr, hall⟩, .inl (by omega), rfl⟩)⟩
  rw [if_neg hn]
  obtain ⟨k, k1, k2⟩ := size_spec K c hb
  rw [k1, Option.bind_some]
  by_cases hs : (1048576 : Int) < (k : Int)
  · rw [if_pos hs]
    exact ⟨_, rfl, .inr (.inl ⟨⟨hr, hall⟩, .inr (k2.1 (by omega)), rfl⟩)⟩
  rw [if_neg hs]
  have hcl : (certB c).length ≤ 1048576 := Nat.le_of_not_lt fun h => hs (by have := k2.2 h; omega)
  have hF : F4 (c.Nodes.length : Int) := ⟨by omega, by omega⟩
  have h84 : (⟨#[84, 67]⟩ : ByteArray) = strL [84, 67] := by decide
  have L4 : ∀ x : Int, (B4 x).length = 4 := fun _ => rfl
  have L0 : ([84, 67] : List Int).length = 2 := rfl
  have hby : Byt (([84, 67] : List Int) ++ B4 c.Root ++ B4 (c.Nodes.length : Int)) := by
    refine (Byt.app ?_ (byt4 hr)).app (byt4 hF)
    intro v hv; simp at hv; rcases hv with rfl | rfl <;> decide
  rw [be4 K (by omega) _ hr, Option.bind_some, h84, if_pos (by simp only [strL_size, L4, L0]; omega), be4 K (by omega) _ hF, Option.bind_some, strL_app, if_pos (by simp only [strL_size, List.length_append, L4, L0]; omega), strL_app, if_pos (by simp only [strL_size, List.length_append, L4, L0]; omega), byt_back hby]
  have hc := certB_len c
  obtain ⟨t, h5⟩ := RPut_l1 K (by omega) c hb hall (([84, 67] : List Int) ++ B4 c.Root ++ B4 (c.Nodes.length : Int)) (by simp only [List.length_append, L4, L0]; omega) K hb.n.1
  rw [h5, Option.bind_some]
  have e : ([84, 67] : List Int) ++ B4 c.Root ++ B4 (c.Nodes.length : Int) ++ nodesB c.Nodes = certB c := by simp [certB]
  rw [e]
  exact ⟨_, rfl, .inr (.inr ⟨⟨hr, hall⟩, by omega, hcl, rfl⟩)⟩
end Go.Proofs.Ytokccimmgilciaa
