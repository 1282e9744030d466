import Derived.Test.YtohcehphgihplaaW13
namespace Go.Proofs.Ytohcehphgihplaa
open S
set_option linter.unusedVariables false
set_option linter.unusedSimpArgs false
theorem RuleS_occ {w : Nat → Int} {r : Rule} {A B : Sp} {i j : Nat} (h : ∀ c ∈ r.Conj, ∀ s ∈ c.Seq, 0 ≤ s.Name → ∀ a b, i ≤ a → a ≤ b → b ≤ j → (A s.Name a b → B s.Name a b) ∧ (c.Neg = true → B s.Name a b → A s.Name a b)) (hr : RuleS A w r i j) : RuleS B w r i j := by
  intro c hc
  have hh := hr c hc
  have up : SeqS A w c.Seq i j → SeqS B w c.Seq i j := SeqS_mono fun s hs h0 a b h1 h2 h3 => (h c hc s hs h0 a b h1 h2 h3).1
  constructor
  · intro hn hb
    exact hh.1 hn (SeqS_mono (fun s hs h0 a b h1 h2 h3 => (h c hc s hs h0 a b h1 h2 h3).2 hn) hb)
  · intro hb
    exact hh.2 fun ha => hb (up ha)
theorem PM1.two {n : Nat} {rs : List Rule} {lv lv' : Int → Int} {w : Nat → Int} {N : Sp} {i j : Nat} (hl : LvS n rs lv) (hl' : LvS n rs lv') (h0 : ∀ y : Int, 0 ≤ y → y < n → 0 ≤ lv y) (h0' : ∀ y : Int, 0 ≤ y → y < n → 0 ≤ lv' y) {A B : Int → Prop}
    (hA : PM1 n rs lv (HS N w i j) A) (hB : PM1 n rs lv' (HS N w i j) B) : ∀ x : Int, 0 ≤ x → x < n → (A x ↔ B x) := by
  have key : ∀ t : Nat, ∀ x : Int, 0 ≤ x → x < n → lv x < t → (A x ↔ B x) := by
    intro t
    induction t with
    | zero => intro x h1 h2 h3; have := h0 x h1 h2; omega
    | succ t ih =>
      have ab : ∀ x : Int, 0 ≤ x → x < n → lv x = t → A x → B x := fun x h1 h2 h3 => hA.mi t B (fun y y1 y2 y3 => (ih y y1 y2 y3).symm) (fun r hr _ h => hB.cl r hr h) x h1 h2 h3
      have ba : ∀ t' : Nat, ∀ x : Int, 0 ≤ x → x < n → lv x = t → lv' x < t' → B x → A x := by
        intro t'
        induction t' with
        | zero => intro x h1 h2 _ h3; have := h0' x h1 h2; omega
        | succ t' ih' =>
          intro x h1 h2 h3 h4
          by_cases h5 : lv' x < t'
          · exact ih' x h1 h2 h3 h5
          · intro hb
            have := hB.mi t' (fun y => if lv y = t ∧ lv' y = t' then A y else B y) (fun y y1 y2 y3 => by rw [if_neg (fun z => by omega)]) (fun r hr ht hH => ?_) x h1 h2 (by omega) hb
            · rwa [if_pos ⟨h3, by omega⟩] at this
            · have hb := hl r hr
              have hb' := hl' r hr
              by_cases e : lv r.Head = t
              · rw [if_pos ⟨e, ht⟩]
                refine hA.cl r hr (RuleS_occ (fun c hc s hs hs0 a b _ _ _ => ?_) hH)
                have q := hb.2 c hc s hs hs0
                have q' := hb'.2 c hc s hs hs0
                unfold upd
                by_cases hab : a = i ∧ b = j
                · rw [if_pos hab, if_pos hab]
                  constructor
                  · intro hm
                    by_cases e2 : lv s.Name = t ∧ lv' s.Name = t'
                    · rwa [if_pos e2] at hm
                    · rw [if_neg e2] at hm
                      by_cases e3 : lv s.Name < t
                      · exact (ih _ hs0 q.1 e3).2 hm
                      · have e4 : lv s.Name = t := by
                          have := q.2; split at this <;> omega
                        exact ih' _ hs0 q.1 e4 (by have := q'.2; split at this <;> omega) hm
                  · intro hn ha
                    rw [hn] at q
                    have e3 : lv s.Name < t := by have := q.2; simp at this; omega
                    rw [if_neg (fun z => by omega)]
                    exact (ih _ hs0 q.1 e3).1 ha
                · rw [if_neg hab, if_neg hab]; exact ⟨id, fun _ => id⟩
              · rw [if_neg (fun z => e z.1)]
                refine hB.cl r hr (RuleS_occ (fun c hc s hs hs0 a b _ _ _ => ?_) hH)
                have q := hb.2 c hc s hs hs0
                have q' := hb'.2 c hc s hs hs0
                unfold upd
                by_cases hab : a = i ∧ b = j
                · rw [if_pos hab, if_pos hab]
                  constructor
                  · intro hm
                    by_cases e2 : lv s.Name = t ∧ lv' s.Name = t'
                    · rw [if_pos e2] at hm
                      exact ab _ hs0 q.1 e2.1 hm
                    · rwa [if_neg e2] at hm
                  · intro hn hbb
                    rw [hn] at q'
                    rw [if_neg (fun z => by have := q'.2; simp at this; omega)]
                    exact hbb
                · rw [if_neg hab, if_neg hab]; exact ⟨id, fun _ => id⟩
      intro x h1 h2 h3
      by_cases h4 : lv x < t
      · exact ih x h1 h2 h4
      · have h5 : lv x = t := by omega
        exact ⟨ab x h1 h2 h5, ba (lv' x + 1).toNat x h1 h2 h5 (by have := h0' x h1 h2; omega)⟩
  intro x h1 h2
  exact key (lv x + 1).toNat x h1 h2 (by have := h0 x h1 h2; omega)
theorem PMs.two {n : Nat} {rs : List Rule} {lv lv' : Int → Int} {w : Nat → Int} {L : Nat} (hl : LvS n rs lv) (hl' : LvS n rs lv') (h0 : ∀ y : Int, 0 ≤ y → y < n → 0 ≤ lv y) (h0' : ∀ y : Int, 0 ≤ y → y < n → 0 ≤ lv' y) {A B : Sp} (hA : PMs n rs lv w L A) (hB : PMs n rs lv' w L B) : ∀ i j, i ≤ j → j ≤ L → ∀ x : Int, 0 ≤ x → x < n → (A x i j ↔ B x i j) := by
  have key : ∀ d i j, j - i < d → i ≤ j → j ≤ L → ∀ x : Int, 0 ≤ x → x < n → (A x i j ↔ B x i j) := by
    intro d
    induction d with
    | zero => intro i j h; omega
    | succ d ih =>
      intro i j hd hij hj
      have e : ∀ y : Int, 0 ≤ y → y < n → ∀ a b, i ≤ a → a ≤ b → b ≤ j → ¬ (a = i ∧ b = j) → (A y a b ↔ B y a b) := fun y y1 y2 a b h1 h2 h3 h4 => ih a b (by omega) h2 (by omega) y y1 y2
      exact PM1.two hl hl' h0 h0' ((hA i j hij hj).env hl e) (hB i j hij hj)
  intro i j hij hj
  exact key (j - i + 1) i j (by omega) hij hj
theorem PMs.of {n : Nat} {rs : List Rule} {lv : Int → Int} {w : Nat → Int} {L : Nat} {N : Sp} (cl : ∀ r ∈ rs, ∀ i j, i ≤ j → j ≤ L → RuleS N w r i j → N r.Head i j)
    (su : ∀ x : Int, 0 ≤ x → x < n → ∀ i j, i ≤ j → j ≤ L → N x i j → ∃ r ∈ rs, r.Head = x ∧ ∀ M : Int → Prop, (∀ y : Int, 0 ≤ y → y < n → lv y < lv x → (M y ↔ N y i j)) → RuleS (upd N i j M) w r i j) : PMs n rs lv w L N := fun i j hij hj =>
  ⟨fun r hr hH => cl r hr i j hij hj (by unfold HS at hH; rwa [upd_self] at hH), fun x h1 h2 hx => let ⟨r, hr, e, hh⟩ := su x h1 h2 i j hij hj hx; ⟨r, hr, e, hh (fun y => N y i j) fun _ _ _ _ => Iff.rfl⟩, fun t M hM hc y h1 h2 hy hx => by
    obtain ⟨r, hr, e, hh⟩ := su y h1 h2 i j hij hj hx
    rw [← e]
    exact hc r hr (by rw [e]; exact hy) (hh M fun z z1 z2 z3 => hM z z1 z2 (by omega))⟩
theorem Rule1 {N : Sp} {w : Nat → Int} {h : Int} {l : List Symbol} {i j : Nat} : RuleS N w ⟨h, [⟨false, l⟩]⟩ i j ↔ SeqS N w l i j := by
  unfold RuleS
  simp
theorem Rule1n {N : Sp} {w : Nat → Int} {h : Int} {l : List Symbol} {i j : Nat} : RuleS N w ⟨h, [⟨true, l⟩]⟩ i j ↔ ¬ SeqS N w l i j := by
  unfold RuleS
  simp
theorem Seq_nil {N : Sp} {w : Nat → Int} {i j : Nat} : SeqS N w [] i j ↔ i = j := Iff.rfl
theorem Seq_byte {N : Sp} {w : Nat → Int} {lo hi : Int} {l : List Symbol} {i j : Nat} : SeqS N w (⟨-1, lo, hi⟩ :: l) i j ↔ (i < j ∧ lo ≤ w i ∧ w i ≤ hi) ∧ SeqS N w l (i + 1) j := by
  constructor
  · rintro ⟨k, h1, h2, h3, h4⟩
    unfold SymS at h3
    rw [if_neg (show ¬ (0 : Int) ≤ -1 by decide)] at h3
    obtain ⟨e, h5, h6⟩ := h3
    subst e
    exact ⟨⟨by omega, h5, h6⟩, h4⟩
  · rintro ⟨⟨h1, h2, h3⟩, h4⟩
    exact ⟨i + 1, by omega, by omega, by unfold SymS; rw [if_neg (show ¬ (0 : Int) ≤ -1 by decide)]; exact ⟨rfl, h2, h3⟩, h4⟩
theorem Seq_name {N : Sp} {w : Nat → Int} {x a b : Int} {l : List Symbol} {i j : Nat} (h0 : 0 ≤ x) : SeqS N w (⟨x, a, b⟩ :: l) i j ↔ ∃ k, i ≤ k ∧ k ≤ j ∧ N x i k ∧ SeqS N w l k j := by
  have e : ∀ k, SymS N w ⟨x, a, b⟩ i k ↔ N x i k := fun k => by unfold SymS; rw [if_pos h0]
  show (∃ k, i ≤ k ∧ k ≤ j ∧ SymS N w ⟨x, a, b⟩ i k ∧ SeqS N w l k j) ↔ _
  simp only [e]
theorem Seq_name1 {N : Sp} {w : Nat → Int} {x a b : Int} {i j : Nat} (h0 : 0 ≤ x) (hij : i ≤ j) : SeqS N w [⟨x, a, b⟩] i j ↔ N x i j := by
  rw [Seq_name h0]
  exact ⟨fun ⟨k, _, _, h, e⟩ => by rw [Seq_nil] at e; rwa [← e], fun h => ⟨j, hij, Nat.le_refl _, h, rfl⟩⟩
theorem upd_at {N : Sp} {i j : Nat} {M : Int → Prop} {x : Int} : upd N i j M x i j ↔ M x := by unfold upd; rw [if_pos ⟨rfl, rfl⟩]
theorem upd_off {N : Sp} {i j a b : Nat} {M : Int → Prop} {x : Int} (h : ¬ (a = i ∧ b = j)) : upd N i j M x a b ↔ N x a b := by unfold upd; rw [if_neg h]
theorem reach_lv {g : Grammar} (hm : mayP g) {lv : Int → Int} (hl : LvS g.Names.length g.Rules lv) {a b : Int} (h : Reach (edgesOf g) a b) : lv b ≤ lv a := by
  induction h with
  | refl => exact Int.le_refl _
  | @step e _ he ih =>
    obtain ⟨r, hr, c, hc, s, hs, h0, rfl⟩ := (mem_edges g _).1 he
    have := ((hl r hr).2 c hc s hs h0).2
    have ih' : lv r.Head ≤ lv a := ih
    show lv s.Name ≤ lv a
    split at this <;> omega
theorem strOut_of {g : Grammar} (hm : mayP g) {lv : Int → Int} (hl : LvS g.Names.length g.Rules lv) {r : List Int × List Int × Int} (h : StrOut g r) : r.2.2 = 0 := by
  rcases h with ⟨hn, _⟩ | ⟨_, ⟨c, ⟨i, hi, hc, _⟩, _⟩ | ⟨_, xs, _, rfl⟩⟩
  · exact (hn hm).elim
  · have hmem := rd_mem' hi
    obtain ⟨q, hq, c, hc2, s, hs, h0, e⟩ := (mem_edges g _).1 hmem
    have h1 := ((hl q hq).2 c hc2 s hs h0).2
    have h2 := reach_lv hm hl hc.2
    have h3 := hc.1
    rw [e] at h2 h3
    have h3' : c.Neg = true := h3
    rw [h3'] at h1
    have h2' : lv q.Head ≤ lv s.Name := h2
    simp at h1
    omega
  · rfl
def gPlain : Grammar := (⟨(0 : Int), ([(⟨#[83]⟩ : ByteArray), (⟨#[88]⟩ : ByteArray)] : List ByteArray), ([(⟨(0 : Int), ([(⟨true, ([(⟨1, (0 : Int), (0 : Int)⟩ : Symbol)] : List Symbol)⟩ : Conjunct)] : List Conjunct)⟩ : Rule), (⟨1, ([(⟨false, ([(⟨(-1), 97, 97⟩ : Symbol), (⟨1, (0 : Int), (0 : Int)⟩ : Symbol)] : List Symbol)⟩ : Conjunct)] : List Conjunct)⟩ : Rule), (⟨1, ([(⟨false, ([(⟨(-1), 97, 97⟩ : Symbol)] : List Symbol)⟩ : Conjunct)] : List Conjunct)⟩ : Rule)] : List Rule)⟩ : Grammar)
theorem plain_may : mayP gPlain := by
  obtain ⟨b, h1, h2⟩ := gMay_spec 1000 (Nat.le_refl _) gPlain
  refine h2.1 ?_
  have : gram_May 1000 gPlain = some true := by kernel_rfl
  rw [this] at h1; exact (Option.some.inj h1).symm
def lvPl (y : Int) : Int := if y = 0 then 1 else 0
theorem plain_lv : LvS gPlain.Names.length gPlain.Rules lvPl := by
  intro r hr
  simp only [gPlain, List.mem_cons, List.not_mem_nil, or_false] at hr
  rcases hr with rfl | rfl | rfl <;> simp [gPlain, lvPl]
def allA (w : Nat → Int) (i j : Nat) : Prop := ∀ k, i ≤ k → k < j → w k = 97
def NP (w : Nat → Int) : Sp := fun x i j => if x = 0 then ¬ (i < j ∧ allA w i j) else i < j ∧ allA w i j
theorem plain_pm (w : Nat → Int) (L : Nat) : PMs gPlain.Names.length gPlain.Rules lvPl w L (NP w) := by
  have n0 : ∀ i j, NP w 0 i j ↔ ¬ (i < j ∧ allA w i j) := fun i j => by unfold NP; rw [if_pos rfl]
  have n1 : ∀ i j, NP w 1 i j ↔ (i < j ∧ allA w i j) := fun i j => by unfold NP; rw [if_neg (by decide)]
  refine PMs.of (fun r hr i j hij hj h => ?_) fun x x0 x1 i j hij hj hx => ?_
  · simp only [gPlain, List.mem_cons, List.not_mem_nil, or_false] at hr
    rcases hr with rfl | rfl | rfl
    · rw [Rule1n, Seq_name1 (by decide) hij, n1] at h
      exact (n0 i j).2 h
    · rw [Rule1, Seq_byte] at h
      obtain ⟨⟨h1, h2, h3⟩, h4⟩ := h
      rw [Seq_name1 (by decide) (by omega), n1] at h4
      refine (n1 i j).2 ⟨h1, fun k k1 k2 => ?_⟩
      by_cases e : k = i
      · subst e; omega
      · exact h4.2 k (by omega) k2
    · rw [Rule1, Seq_byte, Seq_nil] at h
      obtain ⟨⟨h1, h2, h3⟩, h4⟩ := h
      refine (n1 i j).2 ⟨h1, fun k k1 k2 => ?_⟩
      have e : k = i := by omega
      subst e; omega
  · have hx2 : x = 0 ∨ x = 1 := by have : (gPlain.Names.length : Int) = 2 := rfl; omega
    rcases hx2 with rfl | rfl
    · refine ⟨_, .head _, rfl, fun M hM => ?_⟩
      rw [Rule1n, Seq_name1 (by decide) hij, upd_at, hM 1 (by decide) (by decide) (by decide), n1]
      exact (n0 i j).1 hx
    · obtain ⟨h1, h2⟩ := (n1 i j).1 hx
      have hi := h2 i (Nat.le_refl _) h1
      by_cases e : i + 1 = j
      · refine ⟨_, .tail _ (.tail _ (.head _)), rfl, fun M _ => ?_⟩
        rw [Rule1, Seq_byte, Seq_nil]
        exact ⟨⟨h1, by omega, by omega⟩, e⟩
      · refine ⟨_, .tail _ (.head _), rfl, fun M _ => ?_⟩
        rw [Rule1, Seq_byte, Seq_name1 (by decide) (by omega), upd_off (fun z => by omega), n1]
        exact ⟨⟨h1, by omega, by omega⟩, by omega, fun k k1 k2 => h2 k (by omega) k2⟩
def gOdds : Grammar := (⟨(0 : Int), ([(⟨#[83]⟩ : ByteArray)] : List ByteArray), ([(⟨(0 : Int), ([(⟨false, ([(⟨(-1), 97, 97⟩ : Symbol), (⟨(0 : Int), (0 : Int), (0 : Int)⟩ : Symbol), (⟨(-1), 97, 97⟩ : Symbol)] : List Symbol)⟩ : Conjunct)] : List Conjunct)⟩ : Rule), (⟨(0 : Int), ([(⟨false, ([(⟨(-1), 98, 98⟩ : Symbol), (⟨(0 : Int), (0 : Int), (0 : Int)⟩ : Symbol), (⟨(-1), 98, 98⟩ : Symbol)] : List Symbol)⟩ : Conjunct)] : List Conjunct)⟩ : Rule), (⟨(0 : Int), ([(⟨false, ([] : (List Symbol))⟩ : Conjunct)] : List Conjunct)⟩ : Rule), (⟨(0 : Int), ([(⟨false, ([(⟨(-1), 97, 98⟩ : Symbol)] : List Symbol)⟩ : Conjunct)] : List Conjunct)⟩ : Rule)] : List Rule)⟩ : Grammar)
theorem odds_may : mayP gOdds := by
  obtain ⟨b, h1, h2⟩ := gMay_spec 1000 (Nat.le_refl _) gOdds
  refine h2.1 ?_
  have : gram_May 1000 gOdds = some true := by kernel_rfl
  rw [this] at h1; exact (Option.some.inj h1).symm
theorem odds_lv : LvS gOdds.Names.length gOdds.Rules fun _ => 0 := by
  intro r hr
  simp only [gOdds, List.mem_cons, List.not_mem_nil, or_false] at hr
  rcases hr with rfl | rfl | rfl | rfl <;> simp [gOdds]
def NO (w : Nat → Int) : Sp := fun _ i j => (∀ k, i ≤ k → k < j → w k = 97 ∨ w k = 98) ∧ ∀ k, i ≤ k → k < j → w k = w (i + j - 1 - k)
theorem odds_in {w : Nat → Int} {x y : Int} {i j : Nat} (h : i + 1 < j) (c : Int) (hc : c = 97 ∨ c = 98) (h1 : w i = c) (h2 : w (j - 1) = c) (h3 : NO w x (i + 1) (j - 1)) : NO w y i j := by
  refine ⟨fun k k1 k2 => ?_, fun k k1 k2 => ?_⟩
  · by_cases e : k = i
    · subst e; omega
    · by_cases e2 : k = j - 1
      · subst e2; omega
      · exact h3.1 k (by omega) (by omega)
  · by_cases e : k = i
    · subst e; rw [show k + j - 1 - k = j - 1 by omega, h1, h2]
    · by_cases e2 : k = j - 1
      · subst e2; rw [show i + j - 1 - (j - 1) = i by omega, h1, h2]
      · have := h3.2 k (by omega) (by omega)
        rwa [show i + 1 + (j - 1) - 1 - k = i + j - 1 - k by omega] at this
theorem odds_pm (w : Nat → Int) (L : Nat) : PMs gOdds.Names.length gOdds.Rules (fun _ => 0) w L (NO w) := by
  have rule : ∀ (N : Sp) (c : Int) i j, SeqS N w [⟨-1, c, c⟩, ⟨0, 0, 0⟩, ⟨-1, c, c⟩] i j ↔ i + 1 < j ∧ w i = c ∧ w (j - 1) = c ∧ N 0 (i + 1) (j - 1) := fun N c i j => by
    rw [Seq_byte, Seq_name (by decide)]
    constructor
    · rintro ⟨⟨h1, h2, h3⟩, k, h4, h5, h6, h7⟩
      rw [Seq_byte, Seq_nil] at h7
      obtain ⟨⟨h8, h9, h10⟩, h11⟩ := h7
      have e : k = j - 1 := by omega
      subst e
      exact ⟨by omega, by omega, by omega, h6⟩
    · rintro ⟨h1, h2, h3, h4⟩
      exact ⟨⟨by omega, by omega, by omega⟩, j - 1, by omega, by omega, h4, by rw [Seq_byte, Seq_nil]; exact ⟨⟨by omega, by omega, by omega⟩, by omega⟩⟩
  refine PMs.of (fun r hr i j hij hj h => ?_) fun x x0 x1 i j hij hj hx => ?_
  · simp only [gOdds, List.mem_cons, List.not_mem_nil, or_false] at hr
    rcases hr with rfl | rfl | rfl | rfl
    · rw [Rule1, rule] at h
      exact odds_in h.1 97 (.inl rfl) h.2.1 h.2.2.1 h.2.2.2
    · rw [Rule1, rule] at h
      exact odds_in h.1 98 (.inr rfl) h.2.1 h.2.2.1 h.2.2.2
    · rw [Rule1, Seq_nil] at h
      exact ⟨fun k k1 k2 => by omega, fun k k1 k2 => by omega⟩
    · rw [Rule1, Seq_byte, Seq_nil] at h
      obtain ⟨⟨h1, h2, h3⟩, h4⟩ := h
      refine ⟨fun k k1 k2 => ?_, fun k k1 k2 => ?_⟩
      · have e : k = i := by omega
        subst e; omega
      · congr 1; omega
  · have hx2 : x = 0 := by have : (gOdds.Names.length : Int) = 1 := rfl; omega
    subst hx2
    by_cases e : i = j
    · refine ⟨_, .tail _ (.tail _ (.head _)), rfl, fun M _ => ?_⟩
      rw [Rule1, Seq_nil]; exact e
    · have hi := hx.1 i (Nat.le_refl _) (by omega)
      by_cases e1 : i + 1 = j
      · refine ⟨_, .tail _ (.tail _ (.tail _ (.head _))), rfl, fun M _ => ?_⟩
        rw [Rule1, Seq_byte, Seq_nil]; exact ⟨⟨by omega, by omega, by omega⟩, e1⟩
      · have hm := hx.2 i (Nat.le_refl _) (by omega)
        rw [show i + j - 1 - i = j - 1 by omega] at hm
        have inner : NO w 0 (i + 1) (j - 1) := ⟨fun k k1 k2 => hx.1 k (by omega) (by omega), fun k k1 k2 => by
          have := hx.2 k (by omega) (by omega)
          rwa [show i + 1 + (j - 1) - 1 - k = i + j - 1 - k by omega]⟩
        rcases hi with hi | hi
        · refine ⟨_, .head _, rfl, fun M _ => ?_⟩
          rw [Rule1, rule, upd_off (fun z => by omega)]
          exact ⟨by omega, hi, by omega, inner⟩
        · refine ⟨_, .tail _ (.head _), rfl, fun M _ => ?_⟩
          rw [Rule1, rule, upd_off (fun z => by omega)]
          exact ⟨by omega, hi, by omega, inner⟩
def gBytes (a b : Int) : Grammar := (⟨(0 : Int), ([(⟨#[83]⟩ : ByteArray)] : List ByteArray), ([(⟨(0 : Int), ([(⟨false, ([] : (List Symbol))⟩ : Conjunct)] : List Conjunct)⟩ : Rule), (⟨(0 : Int), ([(⟨false, ([(⟨(0 : Int), (0 : Int), (0 : Int)⟩ : Symbol), (⟨(-1), a, b⟩ : Symbol)] : List Symbol)⟩ : Conjunct)] : List Conjunct)⟩ : Rule)] : List Rule)⟩ : Grammar)
theorem bytes_may {a b : Int} (h0 : 0 ≤ a) (hab : a ≤ b) (hb : b ≤ 255) : mayP (gBytes a b) := by
  have hn := odds_may.1
  refine ⟨hn, by simp [gBytes], by simp [gBytes], by simp [gBytes], by simp [gBytes], rfl, ?_, ?_⟩
  · simp [gBytes, chainP, ruleP, conjP, symP]; omega
  · simp [gBytes, total, sumR, sumC]
theorem bytes_lv (a b : Int) : LvS (gBytes a b).Names.length (gBytes a b).Rules fun _ => 0 := by
  intro r hr
  simp only [gBytes, List.mem_cons, List.not_mem_nil, or_false] at hr
  rcases hr with rfl | rfl <;> simp [gBytes]
def NB (a b : Int) (w : Nat → Int) : Sp := fun _ i j => ∀ k, i ≤ k → k < j → a ≤ w k ∧ w k ≤ b
theorem bytes_pm (a b : Int) (w : Nat → Int) (L : Nat) : PMs (gBytes a b).Names.length (gBytes a b).Rules (fun _ => 0) w L (NB a b w) := by
  have rule : ∀ (N : Sp) i j, SeqS N w [⟨0, 0, 0⟩, ⟨-1, a, b⟩] i j ↔ i < j ∧ N 0 i (j - 1) ∧ a ≤ w (j - 1) ∧ w (j - 1) ≤ b := fun N i j => by
    rw [Seq_name (by decide)]
    constructor
    · rintro ⟨k, h4, h5, h6, h7⟩
      rw [Seq_byte, Seq_nil] at h7
      obtain ⟨⟨h8, h9, h10⟩, h11⟩ := h7
      have e : k = j - 1 := by omega
      subst e
      exact ⟨by omega, h6, h9, h10⟩
    · rintro ⟨h1, h2, h3, h4⟩
      exact ⟨j - 1, by omega, by omega, h2, by rw [Seq_byte, Seq_nil]; exact ⟨⟨by omega, h3, h4⟩, by omega⟩⟩
  refine PMs.of (fun r hr i j hij hj h => ?_) fun x x0 x1 i j hij hj hx => ?_
  · simp only [gBytes, List.mem_cons, List.not_mem_nil, or_false] at hr
    rcases hr with rfl | rfl
    · rw [Rule1, Seq_nil] at h
      intro k k1 k2; omega
    · rw [Rule1, rule] at h
      intro k k1 k2
      by_cases e : k = j - 1
      · subst e; exact h.2.2
      · exact h.2.1 k k1 (by omega)
  · have hx2 : x = 0 := by have : ((gBytes a b).Names.length : Int) = 1 := rfl; omega
    subst hx2
    by_cases e : i = j
    · refine ⟨_, .head _, rfl, fun M _ => ?_⟩
      rw [Rule1, Seq_nil]; exact e
    · refine ⟨_, .tail _ (.head _), rfl, fun M _ => ?_⟩
      rw [Rule1, rule, upd_off (fun z => by omega)]
      exact ⟨by omega, fun k k1 k2 => hx k k1 (by omega), hx (j - 1) (by omega) (by omega)⟩
structure Known (g : Grammar) (lv : Int → Int) (N : (Nat → Int) → Sp) : Prop where
  may : mayP g
  st : LvS g.Names.length g.Rules lv
  l0 : ∀ y : Int, 0 ≤ y → y < g.Names.length → 0 ≤ lv y
  pm : ∀ w L, PMs g.Names.length g.Rules lv w L (N w)
theorem plain_known : Known gPlain lvPl NP := ⟨plain_may, plain_lv, fun y _ _ => by unfold lvPl; split <;> omega, plain_pm⟩
theorem odds_known : Known gOdds (fun _ => 0) NO := ⟨odds_may, odds_lv, fun y _ _ => by omega, odds_pm⟩
theorem bytes_known {a b : Int} (h0 : 0 ≤ a) (hab : a ≤ b) (hb : b ≤ 255) : Known (gBytes a b) (fun _ => 0) (NB a b) := ⟨bytes_may h0 hab hb, bytes_lv a b, fun y _ _ => by omega, bytes_pm a b⟩
def Byt (xs : List Int) : Prop := ∀ v ∈ xs, 0 ≤ v ∧ v < 256
theorem strL_app (a b : List Int) : strL a ++ strL b = strL (a ++ b) := by
  apply ByteArray.ext
  simp [strL]
theorem strL_size (a : List Int) : (strL a).size = a.length := by simp [strL, ByteArray.size]
theorem byt_back {xs : List Int} (h : Byt xs) : bytesL (strL xs) = xs := by
  unfold bytesL strL
  simp only [List.map_map]
  conv => rhs; rw [← List.map_id xs]
  apply List.map_congr_left
  intro v hv
  obtain ⟨h0, h1⟩ := h v hv
  simp only [Function.comp, id]
  have : (UInt8.ofNat v.toNat).toNat = v.toNat % 256 := by simp
  rw [this]
  omega
theorem bt_rd (s : ByteArray) (i : Int) : bt s i = rd (bytesL s) i := by
  unfold bt rd bytesL
  rw [List.getD_eq_getElem?_getD, List.getElem?_map, Array.getD_eq_getD_getElem?, ← Array.getElem?_toList]
  cases s.data.toList[i.toNat]? <;> rfl
theorem bt_lo (s : ByteArray) (i : Int) : 0 ≤ bt s i ∧ bt s i ≤ 255 := by
  unfold bt
  have := (s.data.getD i.toNat 0).toNat_lt
  omega
theorem bt_strL {xs : List Int} (h : Byt xs) (i : Int) : bt (strL xs) i = rd xs i := by rw [bt_rd, byt_back h]
def lt (s : ByteArray) (i : Nat) : Int := 97 + bt s (i : Int) % 2
theorem lt_ab (s : ByteArray) (i : Nat) : lt s i = 97 ∨ lt s i = 98 := by unfold lt; omega
theorem lt_bit (s : ByteArray) (i : Nat) : iand .i64 (IntKind.wrap .i64 (bt s (i : Int))) 1 = lt s i - 97 := by
  have := bt_lo s (i : Int)
  rw [wr (by omega) (by omega), and1]; unfold lt; omega
theorem lt_eq (s : ByteArray) (i : Nat) : IntKind.wrap .i64 (97 + iand .i64 (IntKind.wrap .i64 (bt s (i : Int))) 1) = lt s i := by
  have := lt_ab s i
  rw [lt_bit, wr (by omega) (by omega)]; omega
def ws (s : ByteArray) (i : Nat) : List Int := (List.range i).map (lt s)
theorem ws_len (s : ByteArray) (i : Nat) : (ws s i).length = i := by simp [ws]
theorem ws_succ (s : ByteArray) (i : Nat) : ws s (i + 1) = ws s i ++ [lt s i] := by simp [ws, List.range_succ]
theorem ws_rd (s : ByteArray) {i k : Nat} (h : k < i) : rd (ws s i) (k : Int) = lt s k := by
  rw [rd_nat, List.getD_eq_getElem?_getD]; unfold ws
  rw [List.getElem?_map, List.getElem?_range h]; rfl
theorem ws_byt (s : ByteArray) (i : Nat) : Byt (ws s i) := fun v hv => by
  obtain ⟨k, _, rfl⟩ := List.mem_map.1 hv
  have := lt_ab s k; omega
def bs (s : ByteArray) (i : Nat) : List Int := (List.range i).map fun k : Nat => bt s (k : Int)
theorem bs_len (s : ByteArray) (i : Nat) : (bs s i).length = i := by simp [bs]
theorem bs_succ (s : ByteArray) (i : Nat) : bs s (i + 1) = bs s i ++ [bt s (i : Int)] := by simp [bs, List.range_succ]
theorem bs_rd (s : ByteArray) {i k : Nat} (h : k < i) : rd (bs s i) (k : Int) = bt s (k : Int) := by
  rw [rd_nat, List.getD_eq_getElem?_getD]; unfold bs
  rw [List.getElem?_map, List.getElem?_range h]; rfl
def decN (i : Nat) : ByteArray := (templeref0_Decimal 100 (i : Int)).getD (⟨#[]⟩ : ByteArray)
def nameN (i : Nat) : ByteArray := (⟨#[110]⟩ : ByteArray) ++ decN i
theorem small (i : Nat) (h : i < 17) : i = 0 ∨ i = 1 ∨ i = 2 ∨ i = 3 ∨ i = 4 ∨ i = 5 ∨ i = 6 ∨ i = 7 ∨ i = 8 ∨ i = 9 ∨ i = 10 ∨ i = 11 ∨ i = 12 ∨ i = 13 ∨ i = 14 ∨ i = 15 ∨ i = 16 := by omega
theorem dec_spec (K : Nat) (i : Nat) (h : i < 17) : templeref0_Decimal (K + 100) (i : Int) = some (decN i) := by
  rcases small i h with rfl | rfl | rfl | rfl | rfl | rfl | rfl | rfl | rfl | rfl | rfl | rfl | rfl | rfl | rfl | rfl | rfl <;> kernel_rfl
theorem dec_size (i : Nat) (h : i < 17) : (decN i).size ≤ 2 := by
  have : ∀ i : Fin 17, (decN i.val).size ≤ 2 := by decide +kernel
  exact this ⟨i, h⟩
instance (c : Int) : Decidable (letterP c) := by unfold letterP; infer_instance
instance (c : Int) : Decidable (moreP c) := by unfold moreP; infer_instance
instance (s : ByteArray) : Decidable (nameP s) := by unfold nameP; infer_instance
theorem name_may (i : Nat) (h : i < 17) : nameP (nameN i) := by
  have : ∀ i : Fin 17, nameP (nameN i.val) := by decide +kernel
  exact this ⟨i, h⟩
def nameA : ByteArray := ⟨#[97]⟩
theorem names_apart : ((List.range 17).map nameN ++ [nameA]).Nodup := by decide +kernel
theorem names_may (k : Nat) (h : k ≤ 16) : namesP ((List.range k).map nameN ++ [nameA]) := by
  refine ⟨by simp, by simp; omega, fun s hs => ?_, ?_⟩
  · rcases List.mem_append.1 hs with hs | hs
    · obtain ⟨i, hi, rfl⟩ := List.mem_map.1 hs
      exact name_may i (by have := List.mem_range.1 hi; omega)
    · rw [List.mem_singleton] at hs; subst hs; decide +kernel
  · have : (List.range k).Sublist (List.range 17) := by
      have e : List.range k = (List.range 17).take k := by rw [List.take_range]; congr 1; omega
      rw [e]; exact List.take_sublist _ _
    exact names_apart.sublist ((this.map nameN).append (List.Sublist.refl _))
def lvR (i : Nat) : Rule := ⟨(i : Int), ([(⟨true, ([(⟨(i : Int) + 1, (0 : Int), (0 : Int)⟩ : Symbol)] : List Symbol)⟩ : Conjunct)] : List Conjunct)⟩
def gLev (k : Nat) : Grammar := (⟨(0 : Int), (List.range k).map nameN ++ ([(⟨#[97]⟩ : ByteArray)] : List ByteArray), (List.range k).map lvR ++ ([(⟨(k : Int), ([(⟨false, ([(⟨(-1), 97, 97⟩ : Symbol), (⟨(k : Int), (0 : Int), (0 : Int)⟩ : Symbol)] : List Symbol)⟩ : Conjunct)] : List Conjunct)⟩ : Rule), (⟨(k : Int), ([(⟨false, ([] : (List Symbol))⟩ : Conjunct)] : List Conjunct)⟩ : Rule)] : List Rule)⟩ : Grammar)
theorem gLev_rules {k : Nat} {r : Rule} (h : r ∈ (gLev k).Rules) : (∃ i, i < k ∧ r = lvR i) ∨ r = ⟨(k : Int), [⟨false, [⟨-1, 97, 97⟩, ⟨(k : Int), 0, 0⟩]⟩]⟩ ∨ r = ⟨(k : Int), [⟨false, []⟩]⟩ := by
  rcases List.mem_append.1 h with h | h
  · obtain ⟨i, hi, rfl⟩ := List.mem_map.1 h
    exact .inl ⟨i, List.mem_range.1 hi, rfl⟩
  · rcases List.mem_cons.1 h with rfl | h
    · exact .inr (.inl rfl)
    · rw [List.mem_singleton] at h; exact .inr (.inr h)
theorem gLev_in {k i : Nat} (h : i < k) : lvR i ∈ (gLev k).Rules := List.mem_append_left _ (List.mem_map.2 ⟨i, List.mem_range.2 h, rfl⟩)
theorem lv_total : ∀ is : List Nat, total (is.map lvR) = is.length
  | [] => rfl
  | i :: is => by
    rw [List.map_cons, total, lv_total is, List.length_cons]
    show 1 + is.length = _
    omega
theorem total_app (a b : List Rule) : total (a ++ b) = total a + total b := by
  induction a with
  | nil => simp [total]
  | cons r a ih => rw [List.cons_append, total, total, ih]; omega
theorem lv_chain (k : Nat) (rs : List Rule) (hc : chainP ((k : Int) + 1) ((k : Int) - 1) rs) : ∀ (m j : Nat), j + m = k → chainP ((k : Int) + 1) ((j : Int) - 1) ((List.range' j m).map lvR ++ rs)
  | 0, j, hj => by
    have : j = k := by omega
    subst this; exact hc
  | m + 1, j, hj => by
    rw [List.range'_succ, List.map_cons, List.cons_append, chainP]
    refine ⟨⟨by simp [lvR], by simp [lvR], fun c hc => ?_⟩, .inr (by simp only [lvR]; omega), ?_⟩
    · have hc' : c ∈ [(⟨true, [⟨(j : Int) + 1, 0, 0⟩]⟩ : Conjunct)] := hc
      rw [List.mem_singleton] at hc'; subst hc'
      refine ⟨by simp, fun s hs => ?_⟩
      rw [List.mem_singleton] at hs; subst hs
      exact .inr ⟨by simp only; omega, by simp only; omega, rfl, rfl⟩
    · have := lv_chain k rs hc m (j + 1) (by omega)
      rwa [show ((j + 1 : Nat) : Int) - 1 = (lvR j).Head by simp only [lvR]; omega] at this
theorem gLev_may {k : Nat} (h : k ≤ 16) (hk : 1 ≤ k) : mayP (gLev k) := by
  have hl : (gLev k).Names.length = k + 1 := by simp [gLev]
  refine ⟨names_may k h, Int.le_refl _, by rw [hl]; show (0 : Int) < _; omega, by simp [gLev], by simp [gLev]; omega, ?_, ?_, ?_⟩
  · obtain ⟨q, rfl⟩ : ∃ q, k = q + 1 := ⟨k - 1, by omega⟩
    simp only [gLev, List.range_succ_eq_map, List.map_cons, List.cons_append]
    rfl
  · rw [hl]
    have := lv_chain k [⟨(k : Int), [⟨false, [⟨-1, 97, 97⟩, ⟨(k : Int), 0, 0⟩]⟩]⟩, ⟨(k : Int), [⟨false, []⟩]⟩] ?_ k 0 (by omega)
    · rw [← List.range_eq_range'] at this
      exact this
    · simp [chainP, ruleP, conjP, symP]
      omega
  · show total ((List.range k).map lvR ++ _) ≤ 1024
    rw [total_app, lv_total, List.length_range]
    simp [total, sumR, sumC]
    omega
def lvLv (k : Nat) (y : Int) : Int := (k : Int) - y
theorem gLev_lv (k : Nat) : LvS (gLev k).Names.length (gLev k).Rules (lvLv k) := by
  have hl : (gLev k).Names.length = k + 1 := by simp [gLev]
  intro r hr
  rw [hl]
  rcases gLev_rules hr with ⟨i, hi, rfl⟩ | rfl | rfl <;> simp [lvR, lvLv] <;> omega
def NL (k : Nat) (w : Nat → Int) : Sp := fun x i j => if ((k : Int) - x) % 2 = 0 then allA w i j else ¬ allA w i j
theorem lev_pm (k : Nat) (w : Nat → Int) (L : Nat) : PMs (gLev k).Names.length (gLev k).Rules (lvLv k) w L (NL k w) := by
  have hl : (gLev k).Names.length = k + 1 := by simp [gLev]
  have nk : ∀ i j, NL k w (k : Int) i j ↔ allA w i j := fun i j => by unfold NL; rw [if_pos (by omega)]
  have ns : ∀ (x : Int) i j, NL k w x i j ↔ ¬ NL k w (x + 1) i j := fun x i j => by
    unfold NL
    by_cases c : ((k : Int) - x) % 2 = 0
    · rw [if_pos c, if_neg (by omega), Classical.not_not]
    · rw [if_neg c, if_pos (by omega)]
  refine PMs.of (fun r hr i j hij hj h => ?_) fun x x0 x1 i j hij hj hx => ?_
  · rcases gLev_rules hr with ⟨q, hq, rfl⟩ | rfl | rfl
    · unfold lvR at h
      rw [Rule1n, Seq_name1 (by omega) hij] at h
      exact (ns (q : Int) i j).2 h
    · rw [Rule1, Seq_byte] at h
      obtain ⟨⟨h1, h2, h3⟩, h4⟩ := h
      rw [Seq_name1 (by omega) (by omega), nk] at h4
      refine (nk i j).2 fun x x1 x2 => ?_
      by_cases e : x = i
      · subst e; omega
      · exact h4 x (by omega) x2
    · rw [Rule1, Seq_nil] at h
      exact (nk i j).2 fun x x1 x2 => by omega
  · by_cases c : x = (k : Int)
    · subst c
      have hA := (nk i j).1 hx
      by_cases e : i = j
      · refine ⟨_, List.mem_append_right _ (.tail _ (.head _)), rfl, fun M _ => ?_⟩
        rw [Rule1, Seq_nil]; exact e
      · refine ⟨_, List.mem_append_right _ (.head _), rfl, fun M _ => ?_⟩
        have hi := hA i (Nat.le_refl _) (by omega)
        rw [Rule1, Seq_byte, Seq_name1 (by omega) (by omega), upd_off (fun z => by omega), nk]
        exact ⟨⟨by omega, by omega, by omega⟩, fun x x1 x2 => hA x (by omega) x2⟩
    · rw [hl] at x1
      obtain ⟨q, rfl⟩ : ∃ q : Nat, x = (q : Int) := ⟨x.toNat, by omega⟩
      refine ⟨lvR q, gLev_in (by omega), rfl, fun M hM => ?_⟩
      unfold lvR
      rw [Rule1n, Seq_name1 (by omega) hij, upd_at, hM _ (by omega) (by rw [hl]; omega) (by unfold lvLv; omega)]
      exact (ns (q : Int) i j).1 hx
theorem lev_known {k : Nat} (h : k ≤ 16) (hk : 1 ≤ k) : Known (gLev k) (lvLv k) (NL k) := ⟨gLev_may h hk, gLev_lv k, fun y _ h1 => by
  have hl : (gLev k).Names.length = k + 1 := by simp [gLev]
  rw [hl] at h1; unfold lvLv; omega, lev_pm k⟩
theorem nl_start {k : Nat} {w : Nat → Int} {i : Nat} : NL k w 0 0 i ↔ if k % 2 = 0 then (∀ x : Nat, x < i → w x = 97) else ¬ ∀ x : Nat, x < i → w x = 97 := by
  unfold NL
  have q : allA w 0 i ↔ ∀ x : Nat, x < i → w x = 97 := ⟨fun h x hx => h x (Nat.zero_le _) hx, fun h x _ hx => h x hx⟩
  by_cases c : k % 2 = 0
  · rw [if_pos (by omega), if_pos c, q]
  · rw [if_neg (by omega), if_neg c, q]
def allL (s : ByteArray) (i : Nat) : Bool := (List.range i).all fun k => decide (lt s k = 97)
theorem allL_succ (s : ByteArray) (i : Nat) : allL s (i + 1) = (allL s i && decide (lt s i = 97)) := by simp [allL, List.range_succ]
end Go.Proofs.Ytohcehphgihplaa

namespace Go.Proofs.Ytohcehphgihplaa
open S
set_option linter.unusedVariables false
set_option linter.unusedSimpArgs false
set_option maxRecDepth 100000
def Fed (g : Grammar) (w : List Int) (e : Table_Engine) : Prop := ∃ xs, EngT g xs w e ∧ LvF g xs
theorem new_known (K : Nat) (hK : 1000000 ≤ K) {g : Grammar} {lv : Int → Int} {N : (Nat → Int) → Sp} (h : Known g lv N) : ∃ e, table_New K g = some (some e, 0) ∧ Fed g [] e := by
  rcases tNew_spec K hK g with ⟨s, h1, h2, _⟩ | ⟨xs, e, h1, h2, h3⟩
  · exact absurd (strOut_of h.may h.st h1) h2
  · exact ⟨e, h2, xs, h3, h1.lvf⟩
theorem new_bad (K : Nat) (hK : 1000000 ≤ K) {g : Grammar} (h : ¬ mayP g) : table_New K g = some (none, 1500) := by
  rcases tNew_spec K hK g with ⟨s, _, _, h3⟩ | ⟨xs, e, h1, _, _⟩
  · exact h3
  · exact absurd h1.lvf.may h
theorem feed_ok (K : Nat) (hK : 1000000 ≤ K) {g : Grammar} {w : List Int} {e : Table_Engine} (h : Fed g w e) {c : Int} (h0 : 0 ≤ c) (h1 : c ≤ 255) (hl : w.length < 32) : ∃ e', table_Engine_Feed K e c = some (0, e') ∧ Fed g (w ++ [c]) e' := by
  obtain ⟨xs, he, hf⟩ := h
  rcases tFeed_spec K hK he c with ⟨h2, _⟩ | ⟨_, h2, _⟩ | ⟨_, _, e', h2, h3⟩
  · omega
  · omega
  · exact ⟨e', h2, xs, h3.1, hf⟩
theorem feed_full (K : Nat) (hK : 1000000 ≤ K) {g : Grammar} {w : List Int} {e : Table_Engine} (h : Fed g w e) {c : Int} (h0 : 0 ≤ c) (h1 : c ≤ 255) (hl : w.length = 32) : table_Engine_Feed K e c = some (1501, e) := by
  obtain ⟨xs, he, hf⟩ := h
  rcases tFeed_spec K hK he c with ⟨h2, _⟩ | ⟨_, h2, h3⟩ | ⟨_, h2, _⟩
  · omega
  · exact h3
  · omega
theorem feed_bad (K : Nat) (hK : 1000000 ≤ K) {g : Grammar} {w : List Int} {e : Table_Engine} (h : Fed g w e) {c : Int} (h0 : c < 0 ∨ 255 < c) : table_Engine_Feed K e c = some (1500, e) := by
  obtain ⟨xs, he, hf⟩ := h
  rcases tFeed_spec K hK he c with ⟨_, h2⟩ | ⟨_, h2, h3⟩ | ⟨_, h2, _⟩
  · exact h2
  · omega
  · omega
theorem in_known (K : Nat) {g : Grammar} {lv : Int → Int} {N : (Nat → Int) → Sp} (h : Known g lv N) {w : List Int} {e : Table_Engine} (he : Fed g w e) : ∃ b, table_Engine_In K e = some b ∧ (b = true ↔ N (fun k => rd w (k : Int)) g.Start 0 w.length) := by
  obtain ⟨xs, he, hf⟩ := he
  obtain ⟨b, h1, M, h2, h3⟩ := tIn_spec K he
  refine ⟨b, h1, h3.trans ?_⟩
  exact PMs.two hf.lv h.st hf.l0 h.l0 h2 (h.pm _ _) 0 w.length (Nat.zero_le _) (Nat.le_refl _) g.Start h.may.2.1 h.may.2.2.1
theorem len_fed (K : Nat) {g : Grammar} {w : List Int} {e : Table_Engine} (h : Fed g w e) : table_Engine_Len K e = some (w.length : Int) := by
  obtain ⟨xs, he, _⟩ := h
  exact tLen_spec K he
theorem num_eq (K : Nat) (e : Int) : templelaw0_Num K e = some e := rfl
theorem np_start {w : List Int} : NP (fun k => rd w (k : Int)) gPlain.Start 0 w.length ↔ ¬ (0 < w.length ∧ ∀ k : Nat, k < w.length → rd w (k : Int) = 97) := by
  show NP (fun k => rd w (k : Int)) 0 0 w.length ↔ _
  unfold NP allA
  rw [if_pos rfl]
  constructor
  · intro h hh; exact h ⟨hh.1, fun k _ hk => hh.2 k hk⟩
  · intro h hh; exact h ⟨hh.1, fun k hk => hh.2 k (Nat.zero_le _) hk⟩
theorem awake_true (K : Nat) (hK : 1000000 ≤ K) : templelaw15_awake K = some true := by
  obtain ⟨e0, n0, f0⟩ := new_known K hK plain_known
  have n1 : table_New K (⟨(0 : Int), ([] : (List ByteArray)), ([] : (List Rule))⟩ : Grammar) = some (none, 1500) := new_bad K hK fun h => by have := h.1.1; simp at this
  obtain ⟨e1, n2, f1⟩ := feed_ok K hK f0 (c := 97) (by decide) (by decide) (by decide)
  obtain ⟨e2, n3, f2⟩ := feed_ok K hK f1 (c := 98) (by decide) (by decide) (by decide)
  have n4 := feed_bad K hK f2 (c := 256) (.inr (by decide))
  obtain ⟨b0, i0, j0⟩ := in_known K plain_known f0
  obtain ⟨b1, i1, j1⟩ := in_known K plain_known f1
  obtain ⟨b2, i2, j2⟩ := in_known K plain_known f2
  have l2 := len_fed K f2
  rw [np_start] at j0 j1 j2
  have t0 : b0 = true := j0.2 (by simp)
  have t1 : b1 = false := by
    have hk : ∀ k : Nat, k < ([] ++ [97] : List Int).length → rd ([] ++ [97] : List Int) (k : Int) = 97 := fun k h => by
      have e : k = 0 := by simp at h; omega
      subst e; rfl
    rw [← Bool.not_eq_true]
    exact fun h => j1.1 h ⟨by decide, hk⟩
  have t2 : b2 = true := j2.2 fun h => by
    have := h.2 1 (by decide)
    exact absurd this (by decide)
  have hp : templelaw15_Plain K = some gPlain := rfl
  subst t0 t1 t2
  unfold templelaw15_awake
  simp only [hp, Option.bind_some, n0, n1, num_eq, i0, n2, i1, n3, n4, i2, l2]
  rfl
theorem full_l1 (K : Nat) (hK : 1000000 ≤ K) (c cc : Int) (hc : iand .i64 c 255 = cc) (c0 : 0 ≤ cc) (c1 : cc ≤ 255) : ∀ (k i m : Nat) (e : Table_Engine), i + k = 32 → k < m → Fed gPlain (List.replicate i cc) e →
    ∃ e', templelaw15_TableFull.l1 K c m (e, (i : Int)) = some (.inl (e', 32)) ∧ Fed gPlain (List.replicate 32 cc) e'
  | 0, i, m, e, hi, hm, h => by
    obtain ⟨m, rfl⟩ : ∃ q, m = q + 1 := ⟨m - 1, by omega⟩
    have : i = 32 := by omega
    subst this
    simp only [templelaw15_TableFull.l1]
    exact ⟨e, rfl, h⟩
  | k + 1, i, m, e, hi, hm, h => by
    obtain ⟨m, rfl⟩ : ∃ q, m = q + 1 := ⟨m - 1, by omega⟩
    obtain ⟨e', h1, h2⟩ := feed_ok K hK h c0 c1 (by simp; omega)
    rw [← List.replicate_succ'] at h2
    obtain ⟨e2, h3, h4⟩ := full_l1 K hK c cc hc c0 c1 k (i + 1) m e' (by omega) (by omega) h2
    refine ⟨e2, ?_, h4⟩
    simp only [templelaw15_TableFull.l1]
    rw [if_pos (by omega), hc, h1, Option.bind_some, num_eq, Option.bind_some, if_neg (by simp), wr (by omega) (by omega)]
    exact h3
theorem Full_true (K : Nat) (hK : 1000000 ≤ K) (c more : Int) : templelaw15_TableFull K c more = some true := by
  obtain ⟨e0, n0, f0⟩ := new_known K hK plain_known
  obtain ⟨cc, hc⟩ : ∃ cc, iand .i64 c 255 = cc := ⟨_, rfl⟩
  obtain ⟨mm, hm⟩ : ∃ mm, iand .i64 more 255 = mm := ⟨_, rfl⟩
  have hc' := hc
  have hm' := hm
  rw [and255] at hc' hm'
  obtain ⟨e1, n1, f1⟩ := full_l1 K hK c cc hc (by omega) (by omega) 32 0 K e0 rfl (by omega) f0
  have n2 := feed_full K hK f1 (c := mm) (by omega) (by omega) (by simp)
  have n3 := feed_bad K hK f1 (c := -1 - mm) (.inl (by omega))
  have l1 := len_fed K f1
  obtain ⟨b, i0, j0⟩ := in_known K plain_known f1
  rw [np_start] at j0
  have hb : b = decide (cc ≠ 97) := by
    by_cases e : cc = 97
    · have : ¬ b = true := fun h => j0.1 h ⟨by simp, fun k hk => by rw [rd_rep _ (by simpa using hk)]; exact e⟩
      simp [e]; simpa using this
    · have : b = true := j0.2 fun h => e (by have := h.2 0 (by simp); rwa [rd_rep _ (by decide)] at this)
      simp [e, this]
  have hp : templelaw15_Plain K = some gPlain := rfl
  unfold templelaw15_TableFull
  rw [awake_true K hK, Option.bind_some, if_neg (by simp), hp, Option.bind_some, n0, Option.bind_some]
  simp only [hc, hm]
  erw [n1]
  simp only [brk, i0, Option.bind_some, n2, num_eq]
  rw [wr (by omega) (by omega), n3, Option.bind_some]
  simp only [num_eq, Option.bind_some, l1, i0, List.length_replicate]
  rw [hb]
  simp
theorem TableFull_holds (c more : Int) : ∃ K, templelaw15_TableFull K c more = some true := ⟨1000000, Full_true 1000000 (Nat.le_refl _) c more⟩
def rowT (s : ByteArray) (i : Nat) : Bool := decide (0 < (s.size : Int)) && (List.range i).all fun k => decide (lt s k = 97)
theorem rowT_succ (s : ByteArray) (i : Nat) : rowT s (i + 1) = (rowT s i && decide (lt s i = 97)) := by simp [rowT, List.range_succ, Bool.and_assoc]
theorem rowT_if (s : ByteArray) (i : Nat) : (if rowT s i = true then decide (iand .i64 (IntKind.wrap .i64 (bt s (i : Int))) 1 = 0) else false) = rowT s (i + 1) := by
  have e : decide (lt s i - 97 = 0) = decide (lt s i = 97) := by
    have := lt_ab s i
    rcases this with h | h <;> rw [h] <;> rfl
  rw [rowT_succ, lt_bit, e]
  cases rowT s i <;> simp
theorem rowT_in {s : ByteArray} {e : Table_Engine} (K : Nat) (h : Fed gPlain (ws s s.size) e) : table_Engine_In K e = some (!rowT s s.size) := by
  obtain ⟨b, i0, j0⟩ := in_known K plain_known h
  rw [np_start, ws_len] at j0
  have : b = !rowT s s.size := by
    have q : rowT s s.size = true ↔ (0 < s.size ∧ ∀ k : Nat, k < s.size → rd (ws s s.size) (k : Int) = 97) := by
      unfold rowT
      rw [Bool.and_eq_true, decide_eq_true_eq, List.all_eq_true]
      refine and_congr (by omega) ⟨fun h k hk => ?_, fun h k hk => ?_⟩
      · rw [ws_rd s hk]; exact of_decide_eq_true (h k (List.mem_range.2 hk))
      · have := h k (List.mem_range.1 hk)
        rw [ws_rd s (List.mem_range.1 hk)] at this
        exact decide_eq_true this
    rw [← q] at j0
    cases b <;> cases hh : rowT s s.size
    · exact absurd (j0.2 (by rw [hh]; decide)) (by decide)
    · rfl
    · rfl
    · exact absurd hh (by simpa using j0.1 rfl)
  rw [i0, this]
theorem twins_l3 (K : Nat) (hK : 1000000 ≤ K) (a b : ByteArray) : ∀ (k i m : Nat) (x y : Table_Engine), i + k = 14 → k < m → Fed gPlain (ws a (min i a.size)) x → Fed gPlain (ws b (min i b.size)) y →
    ∃ x' y', templelaw15_TableTwins.l3 K a b m (y, x, rowT a (min i a.size), rowT b (min i b.size), (i : Int)) = some (y', x', rowT a (min 14 a.size), rowT b (min 14 b.size), 14) ∧ Fed gPlain (ws a (min 14 a.size)) x' ∧ Fed gPlain (ws b (min 14 b.size)) y'
  | 0, i, m, x, y, hi, hm, h1, h2 => by
    obtain ⟨m, rfl⟩ : ∃ q, m = q + 1 := ⟨m - 1, by omega⟩
    have : i = 14 := by omega
    subst this
    simp only [templelaw15_TableTwins.l3]
    exact ⟨x, y, rfl, h1, h2⟩
  | k + 1, i, m, x, y, hi, hm, h1, h2 => by
    obtain ⟨m, rfl⟩ : ∃ q, m = q + 1 := ⟨m - 1, by omega⟩
    have one : ∀ (s : ByteArray) (z : Table_Engine), Fed gPlain (ws s (min i s.size)) z → ¬ i < s.size ∧ min i s.size = min (i + 1) s.size ∨ i < s.size ∧ min i s.size = i ∧ min (i + 1) s.size = i + 1 ∧ ∃ z', table_Engine_Feed K z (lt s i) = some (0, z') ∧ Fed gPlain (ws s (i + 1)) z' := fun s z hz => by
      by_cases c : i < s.size
      · refine .inr ⟨c, by omega, by omega, ?_⟩
        rw [show min i s.size = i by omega] at hz
        have := lt_ab s i
        have := feed_ok K hK hz (c := lt s i) (by omega) (by omega) (by rw [ws_len]; omega)
        rwa [← ws_succ] at this
      · exact .inl ⟨c, by omega⟩
    have hA : ∃ x', (if (i : Int) < (a.size : Int) then if 0 ≤ (i : Int) then (table_Engine_Feed K x (IntKind.wrap .i64 (97 + (iand .i64 (IntKind.wrap .i64 (bt a (i : Int))) 1)))).bind fun r_145 => if rowT a (min i a.size) = true then some (r_145.2, decide ((iand .i64 (IntKind.wrap .i64 (bt a (i : Int))) 1) = 0)) else some (r_145.2, false) else none else some (x, rowT a (min i a.size))) = some (x', rowT a (min (i + 1) a.size)) ∧ Fed gPlain (ws a (min (i + 1) a.size)) x' := by
      rcases one a x h1 with ⟨c, e⟩ | ⟨c, e1, e2, x', f1, f2⟩
      · rw [if_neg (by omega), ← e]; exact ⟨x, rfl, h1⟩
      · rw [if_pos (by omega), if_pos (by omega), lt_eq, f1, Option.bind_some, e1, e2, ← rowT_if]
        refine ⟨x', ?_, f2⟩
        split <;> rfl
    obtain ⟨x', ea, fa⟩ := hA
    rcases one b y h2 with ⟨c, e⟩ | ⟨c, e1, e2, y', f1, f2⟩
    · obtain ⟨x2, y2, g1, g2, g3⟩ := twins_l3 K hK a b k (i + 1) m x' y (by omega) (by omega) fa (by rw [← e]; exact h2)
      refine ⟨x2, y2, ?_, g2, g3⟩
      simp only [templelaw15_TableTwins.l3]
      rw [if_pos (by omega)]
      erw [ea]
      rw [Option.bind_some]
      simp only
      rw [if_neg (by omega), wr (by omega) (by omega), e]
      exact g1
    · obtain ⟨x2, y2, g1, g2, g3⟩ := twins_l3 K hK a b k (i + 1) m x' y' (by omega) (by omega) fa (by rw [e2]; exact f2)
      refine ⟨x2, y2, ?_, g2, g3⟩
      rw [e2, ← rowT_if] at g1
      simp only [templelaw15_TableTwins.l3]
      rw [if_pos (by omega)]
      erw [ea]
      rw [Option.bind_some]
      simp only
      rw [if_pos (by omega), if_pos (by omega), lt_eq, f1, Option.bind_some, e1, wr (a := (i : Int) + 1) (by omega) (by omega)]
      split
      · rename_i hh
        rw [if_pos hh] at g1
        exact g1
      · rename_i hh
        rw [if_neg hh] at g1
        exact g1
theorem Twins_true (K : Nat) (hK : 1000000 ≤ K) (a b : ByteArray) : templelaw15_TableTwins K a b = some true := by
  obtain ⟨e0, n0, f0⟩ := new_known K hK plain_known
  obtain ⟨x, y, h1, h2, h3⟩ := twins_l3 K hK a b 14 0 K e0 e0 rfl (by omega) (by rw [Nat.zero_min]; exact f0) (by rw [Nat.zero_min]; exact f0)
  have r0 : ∀ s : ByteArray, rowT s (min 0 s.size) = decide (0 < (s.size : Int)) := fun s => by rw [Nat.zero_min]; simp [rowT]
  rw [r0, r0] at h1
  have hp : templelaw15_Plain K = some gPlain := rfl
  unfold templelaw15_TableTwins
  rw [awake_true K hK, Option.bind_some, if_neg (by simp), hp, Option.bind_some, n0, Option.bind_some]
  simp only [Option.bind_some, n0, num_eq]
  rw [if_neg (by simp), if_neg (by simp)]
  erw [h1]
  rw [Option.bind_some]
  simp only
  by_cases ca : (14 : Int) < a.size
  · rw [if_pos ca]
  · rw [if_neg ca]
    by_cases cb : (14 : Int) < b.size
    · rw [if_pos cb]
    · rw [if_neg cb]
      have ea : min 14 a.size = a.size := by omega
      have eb : min 14 b.size = b.size := by omega
      rw [ea] at h2 ⊢
      rw [eb] at h3 ⊢
      rw [rowT_in K h2, Option.bind_some, if_pos rfl, rowT_in K h3, Option.bind_some, if_pos rfl, len_fed K h2, Option.bind_some, if_pos (by rw [ws_len]), len_fed K h3, Option.bind_some, ws_len, decide_eq_true rfl]
theorem TableTwins_holds (a b : ByteArray) : ∃ K, templelaw15_TableTwins K a b = some true := ⟨1000000, Twins_true 1000000 (Nat.le_refl _) a b⟩
def inB (lo hi : Int) (s : ByteArray) (i : Nat) : Bool := (List.range i).all fun k : Nat => decide (lo ≤ bt s (k : Int) ∧ bt s (k : Int) ≤ hi)
theorem inB_succ (lo hi : Int) (s : ByteArray) (i : Nat) : inB lo hi s (i + 1) = (inB lo hi s i && decide (lo ≤ bt s (i : Int) ∧ bt s (i : Int) ≤ hi)) := by simp [inB, List.range_succ]
theorem inB_in {lo hi : Int} (h0 : 0 ≤ lo) (h1 : lo ≤ hi) (h2 : hi ≤ 255) {s : ByteArray} {i : Nat} {e : Table_Engine} (K : Nat) (h : Fed (gBytes lo hi) (bs s i) e) : table_Engine_In K e = some (inB lo hi s i) := by
  obtain ⟨b, i0, j0⟩ := in_known K (bytes_known h0 h1 h2) h
  rw [bs_len] at j0
  have q : inB lo hi s i = true ↔ NB lo hi (fun k => rd (bs s i) (k : Int)) (gBytes lo hi).Start 0 i := by
    unfold inB NB
    rw [List.all_eq_true]
    refine ⟨fun h k _ hk => ?_, fun h k hk => ?_⟩
    · show lo ≤ rd (bs s i) (k : Int) ∧ rd (bs s i) (k : Int) ≤ hi
      rw [bs_rd s hk]; exact of_decide_eq_true (h k (List.mem_range.2 hk))
    · have := h k (Nat.zero_le _) (List.mem_range.1 hk)
      have this : lo ≤ rd (bs s i) (k : Int) ∧ rd (bs s i) (k : Int) ≤ hi := this
      rw [bs_rd s (List.mem_range.1 hk)] at this
      exact decide_eq_true this
  rw [← q] at j0
  rw [i0]
  congr 1
  cases b <;> cases hh : inB lo hi s i <;> simp_all
theorem bytes_l0 (K : Nat) (hK : 1000000 ≤ K) (lo hi lo' hi' : Int) (el : iand .i64 lo 255 = lo') (eh : iand .i64 hi 255 = hi') (h0 : 0 ≤ lo') (h1 : lo' ≤ hi') (h2 : hi' ≤ 255) (s : ByteArray) : ∀ (k i m : Nat) (x : Table_Engine), i + k = 20 → k < m → Fed (gBytes lo' hi') (bs s i) x →
    ∃ r, templelaw15_TableBytes.l0 K lo hi s m (x, inB lo' hi' s i, (i : Int)) = some (.inl r)
  | 0, i, m, x, hk, hm, h => by
    obtain ⟨m, rfl⟩ : ∃ q, m = q + 1 := ⟨m - 1, by omega⟩
    have : i = 20 := by omega
    subst this
    simp only [templelaw15_TableBytes.l0]
    split
    · exact ⟨_, rfl⟩
    · exact ⟨_, rfl⟩
  | k + 1, i, m, x, hk, hm, h => by
    obtain ⟨m, rfl⟩ : ∃ q, m = q + 1 := ⟨m - 1, by omega⟩
    have hb := bt_lo s (i : Int)
    simp only [templelaw15_TableBytes.l0]
    by_cases c : (i : Int) < (s.size : Int)
    · obtain ⟨x', f1, f2⟩ := feed_ok K hK h (c := bt s (i : Int)) (by omega) (by omega) (by rw [bs_len]; omega)
      rw [← bs_succ] at f2
      have ej : (if inB lo' hi' s i = true then if lo' ≤ bt s (i : Int) then some (decide (bt s (i : Int) ≤ hi')) else some false else some false) = some (inB lo' hi' s (i + 1)) := by
        rw [inB_succ]
        cases inB lo' hi' s i
        · rfl
        · by_cases c1 : lo' ≤ bt s (i : Int) <;> simp [c1]
      rw [if_pos c, if_pos (by omega), if_pos (by omega), wr (a := bt s (i : Int)) (by omega) (by omega), f1, Option.bind_some, el, eh, ej, Option.bind_some, num_eq, Option.bind_some, if_neg (by simp), inB_in h0 h1 h2 K f2, Option.bind_some, if_neg (by simp), wr (by omega) (by omega)]
      exact bytes_l0 K hK lo hi lo' hi' el eh h0 h1 h2 s k (i + 1) m x' (by omega) (by omega) f2
    · rw [if_neg c]; exact ⟨_, rfl⟩
theorem Bytes_true (K : Nat) (hK : 1000000 ≤ K) (lo hi : Int) (s : ByteArray) : templelaw15_TableBytes K lo hi s = some true := by
  unfold templelaw15_TableBytes
  rw [awake_true K hK, Option.bind_some, if_neg (by simp)]
  obtain ⟨lo', el⟩ : ∃ x, iand .i64 lo 255 = x := ⟨_, rfl⟩
  obtain ⟨hi', eh⟩ : ∃ x, iand .i64 hi 255 = x := ⟨_, rfl⟩
  have el' := el
  have eh' := eh
  rw [and255] at el' eh'
  rw [el, eh]
  by_cases c : hi' < lo'
  · rw [if_pos c]
  · rw [if_neg c]
    obtain ⟨e0, n0, f0⟩ := new_known K hK (bytes_known (a := lo') (b := hi') (by omega) (by omega) (by omega))
    obtain ⟨r, hr⟩ := bytes_l0 K hK lo hi lo' hi' el eh (by omega) (by omega) (by omega) s 20 0 K e0 rfl (by omega) f0
    unfold gBytes at n0
    rw [n0, Option.bind_some]
    simp only [num_eq, Option.bind_some]
    rw [if_neg (by simp)]
    erw [hr]
    rfl
theorem TableBytes_holds (lo hi : Int) (s : ByteArray) : ∃ K, templelaw15_TableBytes K lo hi s = some true := ⟨1000000, Bytes_true 1000000 (Nat.le_refl _) lo hi s⟩
def pal (xs : List Int) (j : Nat) : Bool := (List.range j).all fun k : Nat => decide (rd xs (k : Int) = rd xs ((xs.length - 1 - k : Nat) : Int))
theorem pal_succ (xs : List Int) (j : Nat) : pal xs (j + 1) = (pal xs j && decide (rd xs (j : Int) = rd xs ((xs.length - 1 - j : Nat) : Int))) := by simp [pal, List.range_succ]
theorem odds_l1 (K : Nat) (s w : ByteArray) (i : Int) (xs : List Int) (hx : Byt xs) (hl : xs.length ≤ 32) (hw : w ++ (strL ([IntKind.wrap .u8 (IntKind.wrap .i64 (97 + (iand .i64 (IntKind.wrap .i64 (bt s i)) 1)))] : List Int)) = strL xs) : ∀ (k j m : Nat), j + k = xs.length → k < m →
    templelaw15_TableOdds.l1 K s w i m (pal xs j, (j : Int)) = some (pal xs xs.length, (xs.length : Int))
  | 0, j, m, hj, hm => by
    obtain ⟨m, rfl⟩ : ∃ q, m = q + 1 := ⟨m - 1, by omega⟩
    have : j = xs.length := by omega
    subst this
    simp only [templelaw15_TableOdds.l1]
    rw [hw, strL_size, if_neg (by omega)]
  | k + 1, j, m, hj, hm => by
    obtain ⟨m, rfl⟩ : ∃ q, m = q + 1 := ⟨m - 1, by omega⟩
    have ih := odds_l1 K s w i xs hx hl hw k (j + 1) m (by omega) (by omega)
    have e1 : IntKind.wrap .i64 (IntKind.wrap .i64 ((xs.length : Int) - 1) - (j : Int)) = ((xs.length - 1 - j : Nat) : Int) := by
      rw [wr (a := (xs.length : Int) - 1) (by omega) (by omega), wr (by omega) (by omega)]; omega
    simp only [templelaw15_TableOdds.l1]
    rw [hw, strL_size, if_pos (by omega), e1, bt_strL hx, bt_strL hx, wr (a := (j : Int) + 1) (by omega) (by omega)]
    rw [pal_succ] at ih
    cases hp : pal xs j with
    | true =>
      rw [hp, Bool.true_and] at ih
      rw [if_pos rfl, if_pos (show (0 : Int) ≤ (j : Int) by omega), if_pos (show (0 : Int) ≤ ((xs.length - 1 - j : Nat) : Int) by omega), if_pos (by omega)]; exact ih
    | false =>
      rw [hp, Bool.false_and] at ih
      rw [if_neg (by simp)]; exact ih
theorem pal_in {s : ByteArray} {i : Nat} {e : Table_Engine} (K : Nat) (h : Fed gOdds (ws s i) e) : table_Engine_In K e = some (pal (ws s i) (ws s i).length) := by
  obtain ⟨b, i0, j0⟩ := in_known K odds_known h
  have q : pal (ws s i) (ws s i).length = true ↔ NO (fun k => rd (ws s i) (k : Int)) gOdds.Start 0 (ws s i).length := by
    rw [ws_len]
    unfold pal NO
    rw [List.all_eq_true, ws_len]
    refine ⟨fun h => ⟨fun k _ hk => ?_, fun k _ hk => ?_⟩, fun h k hk => ?_⟩
    · show rd (ws s i) (k : Int) = 97 ∨ rd (ws s i) (k : Int) = 98
      rw [ws_rd s hk]; exact lt_ab s k
    · have := of_decide_eq_true (h k (List.mem_range.2 hk))
      show rd (ws s i) (k : Int) = rd (ws s i) ((0 + i - 1 - k : Nat) : Int)
      rwa [Nat.zero_add]
    · have this : rd (ws s i) (k : Int) = rd (ws s i) ((0 + i - 1 - k : Nat) : Int) := h.2 k (Nat.zero_le _) (List.mem_range.1 hk)
      rw [Nat.zero_add] at this
      exact decide_eq_true this
  rw [← q] at j0
  rw [i0]
  congr 1
  cases b <;> cases hh : pal (ws s i) (ws s i).length <;> simp_all
theorem odds_l0 (K : Nat) (hK : 1000000 ≤ K) (s : ByteArray) : ∀ (k i m : Nat) (x : Table_Engine), i + k = 14 → k < m → Fed gOdds (ws s i) x →
    ∃ x' j, templelaw15_TableOdds.l0 K s m (x, strL (ws s i), (i : Int)) = some (.inl (x', strL (ws s j), (j : Int))) ∧ Fed gOdds (ws s j) x'
  | 0, i, m, x, hi, hm, h => by
    obtain ⟨m, rfl⟩ : ∃ q, m = q + 1 := ⟨m - 1, by omega⟩
    have : i = 14 := by omega
    subst this
    simp only [templelaw15_TableOdds.l0]
    split
    · exact ⟨x, 14, rfl, h⟩
    · exact ⟨x, 14, rfl, h⟩
  | k + 1, i, m, x, hi, hm, h => by
    obtain ⟨m, rfl⟩ : ∃ q, m = q + 1 := ⟨m - 1, by omega⟩
    have hab := lt_ab s i
    simp only [templelaw15_TableOdds.l0]
    by_cases c : (i : Int) < (s.size : Int)
    · obtain ⟨x', f1, f2⟩ := feed_ok K hK h (c := lt s i) (by omega) (by omega) (by rw [ws_len]; omega)
      rw [← ws_succ] at f2
      have hw : strL (ws s i) ++ (strL ([IntKind.wrap .u8 (IntKind.wrap .i64 (97 + (iand .i64 (IntKind.wrap .i64 (bt s (i : Int))) 1)))] : List Int)) = strL (ws s (i + 1)) := by
        rw [lt_eq, wb (by omega) (by omega), strL_app, ws_succ]
      have e1 := odds_l1 K s (strL (ws s i)) (i : Int) (ws s (i + 1)) (ws_byt _ _) (by rw [ws_len]; omega) hw (i + 1) 0 K (by rw [ws_len]; omega) (by omega)
      have e1 : templelaw15_TableOdds.l1 K s (strL (ws s i)) (i : Int) K (true, 0) = some (pal (ws s (i + 1)) (ws s (i + 1)).length, ((ws s (i + 1)).length : Int)) := e1
      obtain ⟨x2, j, g1, g2⟩ := odds_l0 K hK s k (i + 1) m x' (by omega) (by omega) f2
      refine ⟨x2, j, ?_, g2⟩
      rw [if_pos c, if_pos (by omega), if_pos (by omega), hw, lt_eq, f1, Option.bind_some, strL_size, strL_size, ws_len, if_pos (by simp; omega), e1, Option.bind_some]
      simp only [num_eq, Option.bind_some]
      rw [if_neg (by simp), pal_in K f2, Option.bind_some, if_neg (by simp), wr (by omega) (by omega)]
      exact g1
    · rw [if_neg c]; exact ⟨x, i, rfl, h⟩
theorem Odds_true (K : Nat) (hK : 1000000 ≤ K) (s : ByteArray) : templelaw15_TableOdds K s = some true := by
  unfold templelaw15_TableOdds
  rw [awake_true K hK, Option.bind_some, if_neg (by simp)]
  obtain ⟨e0, n0, f0⟩ := new_known K hK odds_known
  obtain ⟨x, j, h1, h2⟩ := odds_l0 K hK s 14 0 K e0 rfl (by omega) f0
  have h1 : templelaw15_TableOdds.l0 K s K (e0, (⟨#[]⟩ : ByteArray), 0) = some (.inl (x, strL (ws s j), (j : Int))) := h1
  unfold gOdds at n0
  rw [n0, Option.bind_some]
  simp only [num_eq, Option.bind_some]
  rw [if_neg (by simp), h1]
  simp only [brk, Option.bind_some]
  show (table_Engine_Len K x).bind _ = _
  rw [len_fed K h2, Option.bind_some, strL_size, decide_eq_true rfl]
theorem TableOdds_holds (s : ByteArray) : ∃ K, templelaw15_TableOdds K s = some true := ⟨1000000, Odds_true 1000000 (Nat.le_refl _) s⟩
theorem lev_l0 (K : Nat) (many : Int) (k : Nat) (hk : IntKind.wrap .i64 (1 + iand .i64 many 15) = (k : Int)) (h16 : k ≤ 16) : ∀ (d i m : Nat), i + d = k → d < m →
    templelaw15_TableLevels.l0 (K + 100) many m ((List.range i).map lvR, (List.range i).map nameN, (i : Int)) = some ((List.range k).map lvR, (List.range k).map nameN, (k : Int))
  | 0, i, m, hi, hm => by
    obtain ⟨m, rfl⟩ : ∃ q, m = q + 1 := ⟨m - 1, by omega⟩
    have : i = k := by omega
    subst this
    simp only [templelaw15_TableLevels.l0]
    rw [hk, if_neg (by omega)]
  | d + 1, i, m, hi, hm => by
    obtain ⟨m, rfl⟩ : ∃ q, m = q + 1 := ⟨m - 1, by omega⟩
    have ih := lev_l0 K many k hk h16 d (i + 1) m (by omega) (by omega)
    have hd := dec_size i (by omega)
    have s1 : ((⟨#[110]⟩ : ByteArray).size : Int) = 1 := rfl
    have e1 : (⟨#[110]⟩ : ByteArray) ++ decN i = nameN i := rfl
    have e2 : ((i + 1 : Nat) : Int) = (i : Int) + 1 := by omega
    rw [e2, List.range_succ, List.map_append, List.map_append] at ih
    simp only [templelaw15_TableLevels.l0]
    rw [hk, if_pos (by omega), dec_spec K i (by omega), Option.bind_some, if_pos (by omega), e1, if_pos (by simp; omega), wr (a := (i : Int) + 1) (by omega) (by omega), if_pos (by simp; omega)]
    exact ih
theorem row_in {k : Nat} (h : k ≤ 16) (hk : 1 ≤ k) {s : ByteArray} {i : Nat} {e : Table_Engine} (K : Nat) (he : Fed (gLev k) (ws s i) e) : table_Engine_In K e = some (decide (allL s i = decide ((k : Int) % 2 = 0))) := by
  obtain ⟨b, i0, j0⟩ := in_known K (lev_known h hk) he
  rw [ws_len] at j0
  have q : (gLev k).Start = 0 := rfl
  rw [q, nl_start] at j0
  rw [i0]
  congr 1
  have q2 : allL s i = true ↔ ∀ x : Nat, x < i → rd (ws s i) (x : Int) = 97 := by
    unfold allL
    rw [List.all_eq_true]
    exact ⟨fun h x hx => by rw [ws_rd s hx]; exact of_decide_eq_true (h x (List.mem_range.2 hx)), fun h x hx => decide_eq_true (by rw [← ws_rd s (List.mem_range.1 hx)]; exact h x (List.mem_range.1 hx))⟩
  have q3 : decide ((k : Int) % 2 = 0) = decide (k % 2 = 0) := decide_eq_decide.2 (by omega)
  rw [q3]
  rw [Bool.eq_iff_iff, decide_eq_true_eq, j0]
  by_cases c : k % 2 = 0
  · rw [if_pos c, decide_eq_true c, ← q2]
  · rw [if_neg c, decide_eq_false c, ← q2, Bool.not_eq_true]
theorem lev_l1 (K : Nat) (hK : 1000000 ≤ K) (many : Int) (k : Nat) (hk : IntKind.wrap .i64 (1 + iand .i64 many 15) = (k : Int)) (h1k : 1 ≤ k) (h16 : k ≤ 16) (s : ByteArray) : ∀ (d i m : Nat) (x : Table_Engine), i + d = 10 → d < m → Fed (gLev k) (ws s i) x →
    ∃ r, templelaw15_TableLevels.l1 K many s m (x, allL s i, (i : Int)) = some (.inl r)
  | 0, i, m, x, hi, hm, h => by
    obtain ⟨m, rfl⟩ : ∃ q, m = q + 1 := ⟨m - 1, by omega⟩
    have : i = 10 := by omega
    subst this
    simp only [templelaw15_TableLevels.l1]
    split
    · exact ⟨_, rfl⟩
    · exact ⟨_, rfl⟩
  | d + 1, i, m, x, hi, hm, h => by
    obtain ⟨m, rfl⟩ : ∃ q, m = q + 1 := ⟨m - 1, by omega⟩
    have hab := lt_ab s i
    simp only [templelaw15_TableLevels.l1]
    by_cases c : (i : Int) < (s.size : Int)
    · obtain ⟨x', f1, f2⟩ := feed_ok K hK h (c := lt s i) (by omega) (by omega) (by rw [ws_len]; omega)
      rw [← ws_succ] at f2
      have ej : (if allL s i = true then some (decide (lt s i = 97)) else some false) = some (allL s (i + 1)) := by
        rw [allL_succ]
        cases allL s i <;> simp
      have em : Int.tmod (k : Int) 2 = (k : Int) % 2 := Int.tmod_eq_emod_of_nonneg (by omega)
      rw [if_pos c, if_pos (by omega), if_pos (by omega), lt_eq, f1, Option.bind_some, ej, Option.bind_some, row_in h16 h1k K f2, Option.bind_some, hk, em, if_neg (by simp), wr (by omega) (by omega)]
      exact lev_l1 K hK many k hk h1k h16 s d (i + 1) m x' (by omega) (by omega) f2
    · rw [if_neg c]; exact ⟨_, rfl⟩
theorem Levels_true (K : Nat) (hK : 1000000 ≤ K) (many : Int) (s : ByteArray) : templelaw15_TableLevels (K + 100) many s = some true := by
  obtain ⟨k, hk, h1, h16⟩ : ∃ k : Nat, IntKind.wrap .i64 (1 + iand .i64 many 15) = (k : Int) ∧ 1 ≤ k ∧ k ≤ 16 := by
    have e := and15 many
    refine ⟨(1 + iand .i64 many 15).toNat, ?_, by omega, by omega⟩
    rw [wr (by omega) (by omega)]; omega
  have l0 := lev_l0 K many k hk h16 k 0 (K + 100) (by omega) (by omega)
  have l0 : templelaw15_TableLevels.l0 (K + 100) many (K + 100) (([] : List Rule), ([] : List ByteArray), 0) = some ((List.range k).map lvR, (List.range k).map nameN, (k : Int)) := l0
  obtain ⟨e0, n0, f0⟩ := new_known (K + 100) (by omega) (lev_known h16 h1)
  obtain ⟨r, hr⟩ := lev_l1 (K + 100) (by omega) many k hk h1 h16 s 10 0 (K + 100) e0 rfl (by omega) f0
  unfold templelaw15_TableLevels
  rw [awake_true (K + 100) (by omega), Option.bind_some, if_neg (by simp), l0, Option.bind_some]
  simp only
  rw [hk, if_pos (by simp; omega), if_pos (by simp; omega)]
  unfold gLev at n0
  rw [n0, Option.bind_some]
  simp only [num_eq, Option.bind_some]
  rw [if_neg (by simp)]
  erw [hr]
  rfl
theorem TableLevels_holds (many : Int) (s : ByteArray) : ∃ K, templelaw15_TableLevels K many s = some true := ⟨1000000 + 100, Levels_true 1000000 (Nat.le_refl _) many s⟩
end Go.Proofs.Ytohcehphgihplaa

