/-
  What the program's Put comes to, in plain Lean. Own work; no claim stands here.
-/
import Derived.Test.YtokccimmgilciaaPPackA
namespace Go.Proofs.Ytokccimmgilciaa
open S
set_option linter.unusedVariables false
set_option linter.unusedSimpArgs false
set_option maxRecDepth 100000

def certB (c : Cert) : List Int := [84, 67] ++ (B4 c.Root ++ (B4 (c.Nodes.length : Int) ++ nodesB c.Nodes))
def certOk (c : Cert) : Prop := F4 c.Root ∧ ∀ x ∈ c.Nodes, nodeOk x
def certSm (c : Cert) : Prop := Small c.Root ∧ ∀ x ∈ c.Nodes, nodeSm x
/-- What Put answers. -/
def PutIs (c : Cert) (r : ByteArray × Int) : Prop :=
  (¬ certOk c ∧ r = (⟨#[]⟩, 1800)) ∨ (certOk c ∧ (65536 < c.Nodes.length ∨ 1048576 < (certB c).length) ∧ r = (⟨#[]⟩, 1801)) ∨ (certOk c ∧ c.Nodes.length ≤ 65536 ∧ (certB c).length ≤ 1048576 ∧ r = (strL (certB c), 0))
theorem PutIs.uniq {c : Cert} {r s : ByteArray × Int} (h1 : PutIs c r) (h2 : PutIs c s) : r = s := by
  rcases h1 with ⟨a, rfl⟩ | ⟨a, b, rfl⟩ | ⟨a, b, d, rfl⟩ <;> rcases h2 with ⟨a', rfl⟩ | ⟨a', b', rfl⟩ | ⟨a', b', d', rfl⟩ <;> first | rfl | exact absurd a' a | exact absurd a a' | (exfalso; omega)

/-- Bounds under which the program's loops end and its bytes have room. -/
structure PB (K : Nat) (c : Cert) : Prop where
  n : c.Nodes.length < K ∧ c.Nodes.length ≤ 9223372036854775000
  p : ∀ x ∈ c.Nodes, x.Picks.length < K ∧ x.Picks.length ≤ 9223372036854775000
  k : ∀ x ∈ c.Nodes, ∀ p ∈ x.Picks, p.Kids.length < K ∧ p.Kids.length ≤ 9223372036854775000
  b : ∀ x ∈ c.Nodes, (nodeB x).length ≤ 140737486000000

theorem nodesB_take {xs : List Node} {i : Nat} (h : i < xs.length) : nodesB (xs.take (i + 1)) = nodesB (xs.take i) ++ nodeB (rd xs (i : Int)) ∧ xs.take (i + 1) = xs.take i ++ [rd xs (i : Int)] := by
  have e : xs.take (i + 1) = xs.take i ++ [rd xs (i : Int)] := by
    rw [List.take_add_one, rd_nat]
    simp [List.getD_eq_getElem?_getD, h]
  exact ⟨by rw [e]; simp [nodesB], e⟩

theorem Put_l0 (K : Nat) (hK : 20 ≤ K) (c : Cert) (hsm : certSm c) (hb : PB K c) (hdr : List Int) (hh : hdr.length ≤ 20) (ok0 : Prop) (w : Pack_writer) (hg : w.bad = false → ok0 ∧ w.out_ = hdr) (hbad : w.bad = true → ¬ ok0) (hw : w.out_.length ≤ 20) (m : Nat) (hm : c.Nodes.length < m) :
    ∃ r, pack_Put.l0 K c m (w.out_, w.bad, 0) = some r ∧ (r.2.1 = false → (ok0 ∧ ∀ x ∈ c.Nodes, nodeOk x) ∧ (((hdr ++ nodesB c.Nodes).length ≤ 1048576 ∧ r.1 = hdr ++ nodesB c.Nodes) ∨ (1048576 < (hdr ++ nodesB c.Nodes).length ∧ 1048576 < r.1.length))) ∧ (r.2.1 = true → ¬ (ok0 ∧ ∀ x ∈ c.Nodes, nodeOk x)) := by
  have := rounds (L := pack_Put.l0 K c) (fun s => ∃ t : Nat, s.2.2 = t ∧ t ≤ c.Nodes.length ∧ s.1.length ≤ 1048577 ∧ (s.2.1 = false → (ok0 ∧ ∀ x ∈ c.Nodes.take t, nodeOk x) ∧ (((hdr ++ nodesB (c.Nodes.take t)).length ≤ 1048576 ∧ s.1 = hdr ++ nodesB (c.Nodes.take t)) ∨ (1048576 < (hdr ++ nodesB (c.Nodes.take t)).length ∧ 1048576 < s.1.length))) ∧ (s.2.1 = true → ¬ (ok0 ∧ ∀ x ∈ c.Nodes.take t, nodeOk x)))
    (fun s => c.Nodes.length - s.2.2.toNat) (fun r => (r.2.1 = false → (ok0 ∧ ∀ x ∈ c.Nodes, nodeOk x) ∧ (((hdr ++ nodesB c.Nodes).length ≤ 1048576 ∧ r.1 = hdr ++ nodesB c.Nodes) ∨ (1048576 < (hdr ++ nodesB c.Nodes).length ∧ 1048576 < r.1.length))) ∧ (r.2.1 = true → ¬ (ok0 ∧ ∀ x ∈ c.Nodes, nodeOk x))) (fun s m hI => ?_) m (w.out_, w.bad, 0)
    ⟨0, rfl, by omega, by simp only; omega, fun h => by
      obtain ⟨h1, h2⟩ := hg h
      refine ⟨⟨h1, by simp⟩, .inl ⟨by simp [nodesB]; omega, by simp [nodesB, h2]⟩⟩, fun h h' => hbad h h'.1⟩ (by simp only [Int.toNat_zero]; omega)
  · exact this
  obtain ⟨xs, b, t'⟩ := s
  obtain ⟨t, rfl, ht, hl, h1, h2⟩ := hI
  simp only at hl h1 h2
  simp only [pack_Put.l0]
  have h64 := hb.n.2
  by_cases hlt : (t : Int) < c.Nodes.length
  · have hlt' : t < c.Nodes.length := by omega
    have hmem := rd_mem (Int.natCast_nonneg t) hlt
    obtain ⟨w', h3, h4⟩ := node_spec K hK (rd c.Nodes t) (hsm.2 _ hmem) (hb.p _ hmem).1 (hb.p _ hmem).2 (hb.k _ hmem) ⟨xs, b⟩ (by have := hb.b _ hmem; simp only; omega)
    obtain ⟨e1, e2⟩ := nodesB_take hlt'
    -- what the bytes come to
    have key : ∀ ys : List Int, (w'.out_.length ≤ 1048576 → ys = w'.out_) → (1048576 < w'.out_.length → ys = w'.out_.take 1048577) → ys.length ≤ 1048577 ∧
        (w'.bad = false → (ok0 ∧ ∀ x ∈ c.Nodes.take (t + 1), nodeOk x) ∧ (((hdr ++ nodesB (c.Nodes.take (t + 1))).length ≤ 1048576 ∧ ys = hdr ++ nodesB (c.Nodes.take (t + 1))) ∨ (1048576 < (hdr ++ nodesB (c.Nodes.take (t + 1))).length ∧ 1048576 < ys.length))) ∧ (w'.bad = true → ¬ (ok0 ∧ ∀ x ∈ c.Nodes.take (t + 1), nodeOk x)) := by
      intro ys y1 y2
      have hyl : ys.length = if w'.out_.length ≤ 1048576 then w'.out_.length else 1048577 := by
        split
        · rw [y1 ‹_›]
        · rw [y2 (by omega), List.length_take]; omega
      refine ⟨by rw [hyl]; split <;> omega, fun hb' => ?_, fun hb' => ?_⟩
      · have hbf : b = false := by
          cases hbb : b with
          | false => rfl
          | true => have := h4.bad (.inl hbb); rw [hb'] at this; cases this
        have hok : nodeOk (rd c.Nodes t) := Classical.byContradiction fun hn => by have := h4.bad (.inr hn); rw [hb'] at this; cases this
        have hw' := h4.good hbf hok
        obtain ⟨g1, g2⟩ := h1 hbf
        refine ⟨⟨g1.1, fun x hx => ?_⟩, ?_⟩
        · rw [e2, List.mem_append, List.mem_singleton] at hx
          rcases hx with hx | rfl
          · exact g1.2 x hx
          · exact hok
        · rw [hw'] at y1 y2
          simp only at y1 y2
          rcases g2 with ⟨g3, g4⟩ | ⟨g3, g4⟩
          · have e3 : xs ++ nodeB (rd c.Nodes t) = hdr ++ nodesB (c.Nodes.take (t + 1)) := by rw [g4, e1, List.append_assoc]
            rw [e3] at y1 y2
            by_cases hle : (hdr ++ nodesB (c.Nodes.take (t + 1))).length ≤ 1048576
            · exact .inl ⟨hle, y1 hle⟩
            · refine .inr ⟨by omega, ?_⟩
              rw [y2 (by omega), List.length_take]; omega
          · refine .inr ⟨by rw [e1]; simp only [List.length_append] at g3 ⊢; omega, ?_⟩
            rw [y2 (by rw [List.length_append]; omega), List.length_take, List.length_append]; omega
      · intro ⟨o, hall⟩
        have hok : nodeOk (rd c.Nodes t) := hall _ (by rw [e2]; simp)
        cases hbb : b with
        | true => exact h2 hbb ⟨o, fun x hx => hall x (by rw [e2]; simp [hx])⟩
        | false => have := h4.good hbb hok; rw [this] at hb'; cases hb'
    rw [if_pos hlt, if_pos (Int.natCast_nonneg t), h3, Option.bind_some, wr (a := (t : Int) + 1) (by omega) (by omega)]
    by_cases hcut : (1048576 : Int) < (w'.out_.length : Int)
    · rw [if_pos hcut, if_pos (by omega)]
      obtain ⟨k1, k2, k3⟩ := key (w'.out_.take 1048577) (fun h => by omega) fun _ => rfl
      exact .inr ⟨(w'.out_.take 1048577, w'.bad, (t : Int) + 1), ⟨t + 1, by simp, by omega, k1, k2, k3⟩, by simp only; omega, rfl⟩
    · rw [if_neg hcut]
      obtain ⟨k1, k2, k3⟩ := key w'.out_ (fun _ => rfl) fun h => by omega
      exact .inr ⟨(w'.out_, w'.bad, (t : Int) + 1), ⟨t + 1, by simp, by omega, k1, k2, k3⟩, by simp only; omega, rfl⟩
  · have : t = c.Nodes.length := by omega
    subst this
    rw [if_neg hlt]
    rw [List.take_length] at h1 h2
    exact .inl ⟨_, rfl, h1, h2⟩

theorem Put_spec (K : Nat) (hK : 20 ≤ K) (c : Cert) (hsm : certSm c) (hb : PB K c) : ∃ r, pack_Put K c = some r ∧ PutIs c r := by
  have h64 := hb.n.2
  obtain ⟨mn, hmn, hm1, hm2⟩ : ∃ mn : Int, (if (65536 : Int) < (c.Nodes.length : Int) then 65536 else (c.Nodes.length : Int)) = mn ∧ F4 mn ∧ (c.Nodes.length ≤ 65536 → mn = (c.Nodes.length : Int)) := by
    split
    · exact ⟨_, rfl, ⟨by decide, by decide⟩, fun h => by omega⟩
    · exact ⟨_, rfl, ⟨by omega, by omega⟩, fun _ => rfl⟩
  obtain ⟨w, h1, h2⟩ := nums_spec K (by omega) ⟨[84, 67], false⟩ [(c.Root, 4), (mn, 4)] (by
    intro p hp
    simp only [List.mem_cons, List.not_mem_nil, or_false] at hp
    rcases hp with rfl | rfl
    · exact ⟨.inr (.inr rfl), hsm.1⟩
    · exact ⟨.inr (.inr rfl), by have := hm1.2; simp only; omega⟩) (by simp; omega) (by simp) (by simp)
  have hall : (∀ p ∈ [(c.Root, (4 : Int)), (mn, 4)], Fs p) ↔ F4 c.Root := by
    constructor
    · intro h; exact h (c.Root, 4) (by simp)
    · intro h p hp
      simp only [List.mem_cons, List.not_mem_nil, or_false] at hp
      rcases hp with rfl | rfl
      · exact h
      · exact hm1
  have h2' := h2.cong rfl hall
  have hwl := h2'.len
  simp [Bs, B4] at hwl
  obtain ⟨r, h3, h4, h5⟩ := Put_l0 K hK c hsm hb ([84, 67] ++ (B4 c.Root ++ B4 mn)) (by simp [B4]) (F4 c.Root) w (fun hw => by
      by_cases hf : F4 c.Root
      · have := h2'.good rfl hf
        exact ⟨hf, by rw [this]; simp [Bs]⟩
      · have := h2'.bad (.inr hf); rw [hw] at this; cases this) (fun hw hf => by
      have := h2'.good rfl hf; rw [this] at hw; cases hw) (by omega) K hb.n.1
  unfold pack_Put
  rw [hmn, h1, Option.bind_some, h3, Option.bind_some]
  obtain ⟨xs, b, t⟩ := r
  simp only at h4 h5 ⊢
  cases b with
  | true =>
    rw [if_pos rfl]
    exact ⟨_, rfl, .inl ⟨h5 rfl, rfl⟩⟩
  | false =>
    rw [if_neg (by decide)]
    obtain ⟨hok, hx⟩ := h4 rfl
    by_cases hn : (65536 : Int) < (c.Nodes.length : Int)
    · rw [if_pos hn]
      exact ⟨_, rfl, .inr (.inl ⟨hok, .inl (by omega), rfl⟩)⟩
    · rw [if_neg hn]
      have hmn' := hm2 (by omega)
      have hcb : ([84, 67] ++ (B4 c.Root ++ B4 mn)) ++ nodesB c.Nodes = certB c := by rw [hmn']; simp [certB]
      rw [hcb] at hx
      rcases hx with ⟨x1, x2⟩ | ⟨x1, x2⟩
      · rw [if_neg (by rw [x2]; omega)]
        exact ⟨_, rfl, .inr (.inr ⟨hok, by omega, x1, by rw [x2]⟩)⟩
      · rw [if_pos (by omega)]
        exact ⟨_, rfl, .inr (.inl ⟨hok, .inr x1, rfl⟩)⟩
end Go.Proofs.Ytokccimmgilciaa
