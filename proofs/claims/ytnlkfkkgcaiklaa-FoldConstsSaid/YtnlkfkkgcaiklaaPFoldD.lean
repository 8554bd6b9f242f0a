/- How great what the maker makes is; when it is what it was made of; inputs. Plain. -/
import Derived.Test.YtnlkfkkgcaiklaaPFoldC
namespace Go.Proofs.YtnlkfkkgcaiklaaV
set_option linter.unusedVariables false
set_option linter.unusedSimpArgs false

theorem c_wt (gs : List Gate) (n : Int) : wt (addG gs 0 0 0 n).2 ≤ wt gs + 1 := by
  have := add_wt gs 0 0 0 n
  simp only [wk] at this; simp at this; omega

theorem not_wt (gs : List Gate) (a : Int) : wt (notG gs a).2 ≤ wt gs + 2 := by
  unfold notG
  split
  · have := c_wt gs (IntKind.u32.wrap ((BitVec.ofInt 32 4294967295 ^^^ BitVec.ofInt 32 (num gs a)).toNat : Int)); omega
  · split
    · simp
    · have := add_wt gs 5 a 0 0
      simp only [wk] at this; simp at this; omega
theorem and_wt (gs : List Gate) (a b : Int) : wt (andG gs a b).2 ≤ wt gs + 3 := by
  unfold andG
  split
  · have := c_wt gs (IntKind.u32.wrap ((BitVec.ofInt 32 (num gs a) &&& BitVec.ofInt 32 (num gs b)).toNat : Int)); omega
  split
  · simp
  split
  · simp
  split
  · have := add_wt gs 0 0 0 0
    simp only [wk] at this; simp at this; omega
  · have := add_wt gs 3 a b 0
    simp only [wk] at this; simp at this; omega
theorem xor_wt (gs : List Gate) (a b : Int) : wt (xorG gs a b).2 ≤ wt gs + 3 := by
  unfold xorG
  split
  · have := c_wt gs (IntKind.u32.wrap ((BitVec.ofInt 32 (num gs a) ^^^ BitVec.ofInt 32 (num gs b)).toNat : Int)); omega
  split
  · have := add_wt gs 0 0 0 0
    simp only [wk] at this; simp at this; omega
  split
  · simp
  split
  · simp
  split
  · have := not_wt gs b; omega
  split
  · have := not_wt gs a; omega
  · have := add_wt gs 4 a b 0
    simp only [wk] at this; simp at this; omega
theorem shift_wt (gs : List Gate) (k n a : Int) (hk : 6 ≤ k ∧ k ≤ 8) : wt (shiftG gs k n a).2 ≤ wt gs + 2 := by
  unfold shiftG
  split
  · simp
  split
  · have := add_wt gs k a 0 n
    have h2 : wk k = 2 := by unfold wk; grind
    omega
  · have := c_wt gs ((shW k (BitVec.ofInt 32 (num gs a)) n).toNat : Int); omega

/-- A gate that can't be made less. -/
def NFg (gs : List Gate) (k a b n : Int) : Prop :=
  (k = 5 → cst gs a = false ∧ (gat gs a).1 ≠ 5) ∧ (6 ≤ k → cst gs a = false ∧ n ≠ 0) ∧
  (k = 3 ∨ k = 4 → a ≠ b ∧ ¬ (cst gs a = true ∧ (num gs a = 0 ∨ num gs a = 4294967295)) ∧ ¬ (cst gs b = true ∧ (num gs b = 0 ∨ num gs b = 4294967295)) ∧ ¬ (cst gs a = true ∧ cst gs b = true))

theorem and_eq {gs : List Gate} {a b : Int} (h : wt (andG gs a b).2 = wt gs + 3) : andG gs a b = addG gs 3 a b 0 ∧ NFg gs 3 a b 0 := by
  unfold andG at h ⊢
  split at h
  · have := c_wt gs (IntKind.u32.wrap ((BitVec.ofInt 32 (num gs a) &&& BitVec.ofInt 32 (num gs b)).toNat : Int)); omega
  split at h
  · simp at h
  split at h
  · simp at h
  split at h
  · have := c_wt gs 0; omega
  · rename_i h1 h2 h3 h4
    rw [if_neg h1, if_neg h2, if_neg h3, if_neg h4]
    refine ⟨rfl, by simp, by omega, fun _ => ⟨?_, ?_, ?_, h1⟩⟩ <;> grind
theorem xor_eq {gs : List Gate} {a b : Int} (h : wt (xorG gs a b).2 = wt gs + 3) : xorG gs a b = addG gs 4 a b 0 ∧ NFg gs 4 a b 0 := by
  unfold xorG at h ⊢
  split at h
  · have := c_wt gs (IntKind.u32.wrap ((BitVec.ofInt 32 (num gs a) ^^^ BitVec.ofInt 32 (num gs b)).toNat : Int)); omega
  split at h
  · have := c_wt gs 0; omega
  split at h
  · simp at h
  split at h
  · simp at h
  split at h
  · have := not_wt gs b; omega
  split at h
  · have := not_wt gs a; omega
  · rename_i h1 h2 h3 h4 h5 h6
    rw [if_neg h1, if_neg h2, if_neg h3, if_neg h4, if_neg h5, if_neg h6]
    refine ⟨rfl, by simp, by omega, fun _ => ⟨?_, ?_, ?_, h1⟩⟩ <;> grind
theorem not_eq {gs : List Gate} {a : Int} (h : wt (notG gs a).2 = wt gs + 2) : notG gs a = addG gs 5 a 0 0 ∧ NFg gs 5 a 0 0 := by
  unfold notG at h ⊢
  split at h
  · have := c_wt gs (IntKind.u32.wrap ((BitVec.ofInt 32 4294967295 ^^^ BitVec.ofInt 32 (num gs a)).toNat : Int)); omega
  split at h
  · simp at h
  · rename_i h1 h2
    rw [if_neg h1, if_neg h2]
    exact ⟨rfl, fun _ => ⟨by simpa using h1, h2⟩, by omega, by omega⟩
theorem shift_eq {gs : List Gate} {k n a : Int} (hk : 6 ≤ k ∧ k ≤ 8) (h : wt (shiftG gs k n a).2 = wt gs + 2) : shiftG gs k n a = addG gs k a 0 n ∧ NFg gs k a 0 n := by
  unfold shiftG at h ⊢
  split at h
  · simp at h
  split at h
  · rename_i h1 h2
    rw [if_neg h1, if_pos h2]
    exact ⟨rfl, by omega, fun _ => ⟨h2, h1⟩, by omega⟩
  · have := c_wt gs ((shW k (BitVec.ofInt 32 (num gs a)) n).toNat : Int); omega

/-- What is a gate's, among what stands for others. -/
def arg1 (now : List Int) (g : Gate) : Int := if 1 ≤ takes g.1 then now.getD g.2.1.toNat 0 else 0
def arg2 (now : List Int) (g : Gate) : Int := if 2 ≤ takes g.1 then now.getD g.2.2.1.toNat 0 else 0

theorem gate_wt (gs : List Gate) (now : List Int) (g : Gate) (hk : 0 ≤ g.1 ∧ g.1 ≤ 8) : wt (gateG gs now g).2 ≤ wt gs + wk g.1 := by
  unfold gateG
  split
  · rename_i h; rw [h]; exact and_wt _ _ _
  split
  · rename_i h; rw [h]; exact xor_wt _ _ _
  split
  · rename_i h; rw [h]; exact not_wt _ _
  split
  · rename_i h
    have h2 : wk g.1 = 2 := by unfold wk; grind
    rw [h2]
    exact shift_wt _ _ _ _ ⟨h, hk.2⟩
  · exact add_wt _ _ _ _ _

theorem gate_eq {s p : Int} {i : Nat} {cs : List Gate} {gs : List Gate} {now : List Int} {g : Gate} (hk : g.1 ≤ 8) (hok : GateOK cs s p i g) (h : wt (gateG gs now g).2 = wt gs + wk g.1) :
    gateG gs now g = ((gs.length : Int), gs ++ [(g.1, (arg1 now g, (arg2 now g, (g.2.2.2.1, secOf gs g.1 (arg1 now g) (arg2 now g)))))]) ∧ NFg gs g.1 (arg1 now g) (arg2 now g) g.2.2.2.1 ∧ fnd (keyG g.1 (arg1 now g) (arg2 now g) g.2.2.2.1) gs = none := by
  obtain ⟨k, a, b, n, c⟩ := g
  obtain ⟨hk0, h0, h0', h1, h2, hn, hcc⟩ := hok
  simp only at hk hk0 h0 h0' h1 h2 hn hcc
  have hlt : wt gs < wt (gateG gs now (k, a, b, n, c)).2 := by rw [h]; have := wk_pos k; simp only; omega
  unfold gateG at h hlt ⊢
  simp only at h hlt ⊢
  split at h
  · rename_i h3
    subst h3
    obtain ⟨e1, e2⟩ := and_eq (by rw [show wk 3 = 3 from rfl] at h; exact h)
    rw [if_pos rfl] at hlt ⊢
    rw [e1] at hlt ⊢
    obtain ⟨f1, f2⟩ := add_eq hlt
    have hn0 : n = 0 := hn.2.2.2 (.inl (by omega))
    subst hn0
    exact ⟨f2, e2, f1⟩
  rename_i h3
  rw [if_neg h3] at hlt ⊢
  split at h
  · rename_i h3
    subst h3
    obtain ⟨e1, e2⟩ := xor_eq (by rw [show wk 4 = 3 from rfl] at h; exact h)
    rw [if_pos rfl] at hlt ⊢
    rw [e1] at hlt ⊢
    obtain ⟨f1, f2⟩ := add_eq hlt
    have hn0 : n = 0 := hn.2.2.2 (.inl (by omega))
    subst hn0
    exact ⟨f2, e2, f1⟩
  rename_i h4
  rw [if_neg h4] at hlt ⊢
  split at h
  · rename_i h3
    subst h3
    obtain ⟨e1, e2⟩ := not_eq (by rw [show wk 5 = 2 from rfl] at h; exact h)
    rw [if_pos rfl] at hlt ⊢
    rw [e1] at hlt ⊢
    obtain ⟨f1, f2⟩ := add_eq hlt
    have hn0 : n = 0 := hn.2.2.2 (.inl (by omega))
    subst hn0
    exact ⟨f2, e2, f1⟩
  rename_i h5
  rw [if_neg h5] at hlt ⊢
  split at h
  · rename_i h6
    have hw2 : wk k = 2 := by unfold wk; grind
    have ht : takes k = 1 := by unfold takes; grind
    obtain ⟨e1, e2⟩ := shift_eq ⟨h6, hk⟩ (by rw [hw2] at h; exact h)
    rw [if_pos h6] at hlt ⊢
    rw [e1] at hlt ⊢
    obtain ⟨f1, f2⟩ := add_eq hlt
    have ea : arg1 now (k, a, b, n, c) = now.getD a.toNat 0 := by simp [arg1, ht]
    have eb : arg2 now (k, a, b, n, c) = 0 := by simp [arg2, ht]
    rw [ea, eb]
    exact ⟨f2, e2, f1⟩
  · rename_i h6
    have ht : takes k = 0 := by unfold takes; grind
    obtain rfl := h0 (by omega)
    obtain rfl := h0' (by omega)
    rw [if_neg h6] at hlt ⊢
    obtain ⟨f1, f2⟩ := add_eq hlt
    have ea : arg1 now (k, 0, 0, n, c) = 0 := by simp [arg1, ht]
    have eb : arg2 now (k, 0, 0, n, c) = 0 := by simp [arg2, ht]
    rw [ea, eb]
    exact ⟨f2, ⟨by omega, by omega, by omega⟩, f1⟩

/-! ### Inputs -/
def isIn (g : Gate) : Bool := decide (g.1 = 1 ∨ g.1 = 2)
def inps (gs : List Gate) : List Gate := gs.filter isIn

theorem add_inps {gs : List Gate} {k : Int} (hk : ¬ (k = 1 ∨ k = 2)) (a b n : Int) : inps (addG gs k a b n).2 = inps gs := by
  unfold addG
  cases fnd (keyG k a b n) gs with
  | some i => rfl
  | none => simp [inps, isIn, hk]
theorem not_inps (gs : List Gate) (a : Int) : inps (notG gs a).2 = inps gs := by
  unfold notG
  split
  · exact add_inps (by decide) _ _ _
  split
  · rfl
  · exact add_inps (by decide) _ _ _
theorem and_inps (gs : List Gate) (a b : Int) : inps (andG gs a b).2 = inps gs := by
  unfold andG
  split
  · exact add_inps (by decide) _ _ _
  split
  · rfl
  split
  · rfl
  split
  · exact add_inps (by decide) _ _ _
  · exact add_inps (by decide) _ _ _
theorem xor_inps (gs : List Gate) (a b : Int) : inps (xorG gs a b).2 = inps gs := by
  unfold xorG
  split
  · exact add_inps (by decide) _ _ _
  split
  · exact add_inps (by decide) _ _ _
  split
  · rfl
  split
  · rfl
  split
  · exact not_inps _ _
  split
  · exact not_inps _ _
  · exact add_inps (by decide) _ _ _
theorem shift_inps (gs : List Gate) {k : Int} (hk : 6 ≤ k) (n a : Int) : inps (shiftG gs k n a).2 = inps gs := by
  unfold shiftG
  split
  · rfl
  split
  · exact add_inps (by omega) _ _ _
  · exact add_inps (by decide) _ _ _

theorem gate_inps {s p : Int} {i : Nat} {cs gs : List Gate} {now : List Int} {g : Gate} (hk : g.1 ≤ 8) (hok : GateOK cs s p i g) (hI : Inv s p gs) (hnew : isIn g = true → g ∉ inps gs) :
    inps (gateG gs now g).2 = inps gs ++ (if isIn g = true then [g] else []) := by
  obtain ⟨k, a, b, n, c⟩ := g
  obtain ⟨hk0, h0, h0', h1, h2, hn, hcc⟩ := hok
  simp only at hk hk0 h0 h0' h1 h2 hn hcc
  unfold gateG
  simp only
  by_cases hin : k = 1 ∨ k = 2
  · have hii : isIn (k, a, b, n, c) = true := by simp [isIn, hin]
    have ht : takes k = 0 := by rcases hin with rfl | rfl <;> rfl
    obtain rfl := h0 (by omega)
    obtain rfl := h0' (by omega)
    have hc : ∀ l : List Gate, secOf l k 0 0 = decide (k = 1) := fun l => by simp [secOf, ht]
    rw [if_neg (by omega), if_neg (by omega), if_neg (by omega), if_neg (by omega), if_pos hii]
    have hno := hnew hii
    unfold addG
    cases hf : fnd (keyG k 0 0 n) gs with
    | some j =>
      exfalso
      obtain ⟨hj, hke⟩ := fnd_some hf
      have hokj := hI.ok j hj
      rw [getD_nat _ _ _ hj] at hokj
      obtain ⟨e1, e2, e3⟩ := keyG_inv (show keyG gs[j].1 gs[j].2.1 gs[j].2.2.1 gs[j].2.2.2.1 = keyG k 0 0 n from hke)
      apply hno
      have hc2 := hokj.2.2.2.2.2.2
      have : gs[j] = (k, 0, 0, n, c) := by
        have ea : gs[j].2.1 = 0 := by rcases e3 with h | h <;> omega
        have eb : gs[j].2.2.1 = 0 := by rcases e3 with h | h <;> omega
        rw [e1, ea, eb, hc] at hc2
        rw [hc] at hcc
        exact Prod.ext e1 (Prod.ext ea (Prod.ext eb (Prod.ext e2 (by rw [hc2, hcc]))))
      rw [← this]
      exact List.mem_filter.2 ⟨List.getElem_mem hj, by rw [this]; exact hii⟩
    | none =>
      simp only [inps, List.filter_append]
      congr 1
      rw [hc] at hcc ⊢
      rw [← hcc]
      simp [hii]
  · have hii : ¬ isIn (k, a, b, n, c) = true := by simp [isIn]; omega
    rw [if_neg hii, List.append_nil]
    split
    · exact and_inps _ _ _
    split
    · exact xor_inps _ _ _
    split
    · exact not_inps _ _
    split
    · rename_i h; exact shift_inps _ h _ _
    · exact add_inps hin _ _ _

/-! ### All gates -/
def mstep (st : List Int × List Gate) (g : Gate) : List Int × List Gate := (st.1 ++ [(gateG st.2 st.1 g).1], (gateG st.2 st.1 g).2)
def onceM (cs : List Gate) : List Int × List Gate := cs.foldl mstep ([], [])
theorem onceM_take (cs : List Gate) {i : Nat} (h : i < cs.length) : onceM (cs.take (i + 1)) = mstep (onceM (cs.take i)) cs[i] := by
  rw [onceM, take_snoc _ h, List.foldl_append]
  rfl

def rng (i : Nat) : List Int := (List.range i).map fun (j : Nat) => (j : Int)
theorem rng_get {i j : Nat} (h : j < i) : (rng i).getD j 0 = (j : Int) := by simp [rng, h]
theorem rng_succ (i : Nat) : rng (i + 1) = rng i ++ [(i : Int)] := by simp [rng, List.range_succ]

theorem Inv.nil (s p : Int) : Inv s p [] := ⟨fun i hi => by simp at hi, fun i hi => by simp at hi, fun i hi => by simp at hi, by simp⟩

theorem once_at {s p : Int} {cs : List Gate} (hc : AllOK cs s p) (hf : FewK cs) (hwd : Wds cs) (hnd : (inps cs).Nodup) : ∀ i, i ≤ cs.length →
    Now s p cs i (onceM (cs.take i)).1 (onceM (cs.take i)).2 ∧ Inv s p (onceM (cs.take i)).2 ∧ (onceM (cs.take i)).2.length ≤ i ∧ wt (onceM (cs.take i)).2 ≤ wt (cs.take i) ∧ inps (onceM (cs.take i)).2 = inps (cs.take i) ∧
      (wt (onceM (cs.take i)).2 = wt (cs.take i) → onceM (cs.take i) = (rng i, cs.take i) ∧ ∀ j (hj : j < i) (hjc : j < cs.length), NFg (cs.take j) cs[j].1 (cs[j].2.1) cs[j].2.2.1 cs[j].2.2.2.1)
  | 0, _ => ⟨⟨rfl, fun j hj => by omega⟩, Inv.nil s p, Nat.le_refl _, Nat.le_refl _, rfl, fun _ => ⟨rfl, fun j hj => by omega⟩⟩
  | i + 1, hi => by
    obtain ⟨h1, h2, h3, h4, h5, h6⟩ := once_at hc hf hwd hnd i (by omega)
    have hlt : i < cs.length := hi
    have hr := gate_res hc hf hwd hlt h2 h1
    have hok := hc i hlt
    have hk := hf i hlt
    rw [getD_nat _ _ _ hlt] at hok hk
    have hnew : isIn cs[i] = true → cs[i] ∉ inps (onceM (cs.take i)).2 := by
      intro hin hm
      rw [h5] at hm
      have e : inps cs = inps (cs.take i) ++ (cs[i] :: inps (cs.drop (i + 1))) := by
        have e0 : cs = cs.take i ++ (cs[i] :: cs.drop (i + 1)) := by rw [← drop_cons cs hlt, List.take_append_drop]
        have e1 := congrArg inps e0
        rw [e1]
        simp only [inps, List.filter_append, List.filter_cons, hin, if_true]
      rw [e, List.nodup_append] at hnd
      exact hnd.2.2 _ hm _ (List.mem_cons_self ..) rfl
    have hin := gate_inps (now := (onceM (cs.take i)).1) hk hok h2 hnew
    have hw := gate_wt (onceM (cs.take i)).2 (onceM (cs.take i)).1 cs[i] ⟨hok.1.1, hk⟩
    have hwt : wt (cs.take (i + 1)) = wt (cs.take i) + wk cs[i].1 := by
      have h1w : wt [cs[i]] = wk cs[i].1 := by simp [wt]
      rw [take_snoc _ hlt, wt_app, h1w]
    have hinps : inps (cs.take (i + 1)) = inps (cs.take i) ++ (if isIn cs[i] = true then [cs[i]] else []) := by
      rw [take_snoc _ hlt]
      simp only [inps, List.filter_append]
      congr 1
      cases h : isIn cs[i] <;> simp [h]
    rw [onceM_take cs hlt]
    simp only [mstep]
    obtain ⟨l, hl, hll⟩ := hr.pre
    refine ⟨⟨by simp [h1.1], fun j hj => ?_⟩, hr.inv, ?_, by omega, by rw [hin, h5, hinps], fun he => ?_⟩
    · rcases Nat.lt_or_ge j i with hji | hji
      · rw [getD_left _ _ _ (by rw [h1.1]; exact hji)]
        obtain ⟨q1, q2, q3⟩ := h1.2 j hji
        rw [hl]
        exact ⟨In_app q1 l, fun S P => (Wat_app q1 l S P).trans (q2 S P), fun h => q3 ((sec_app q1 l).symm.trans h)⟩
      · obtain rfl : j = i := by omega
        rw [getD_last _ _ _ h1.1.symm]
        exact ⟨hr.inn, hr.wat, hr.sec⟩
    · rw [hl]; simp; omega
    · obtain ⟨f1, f2⟩ := h6 (by omega)
      obtain ⟨g1, g2, g3⟩ := gate_eq (now := (onceM (cs.take i)).1) (gs := (onceM (cs.take i)).2) hk hok (by omega)
      rw [f1] at g1 g2 g3 ⊢
      have lt : (cs.take i).length = i := by simp; omega
      have ea : arg1 (rng i) cs[i] = cs[i].2.1 := by
        unfold arg1
        split
        · rename_i ht
          have := hok.2.2.2.1 ht
          rw [rng_get (by omega)]; omega
        · rename_i ht
          exact (hok.2.1 (by omega)).symm
      have eb : arg2 (rng i) cs[i] = cs[i].2.2.1 := by
        unfold arg2
        split
        · rename_i ht
          have := hok.2.2.2.2.1 ht
          rw [rng_get (by omega)]; omega
        · rename_i ht
          exact (hok.2.2.1 (by omega)).symm
      simp only at g1 g2
      rw [ea, eb] at g1 g2
      have hsec : secOf (cs.take i) cs[i].1 cs[i].2.1 cs[i].2.2.1 = cs[i].2.2.2.2 := by
        rw [hok.2.2.2.2.2.2]
        have key : ∀ x : Int, 0 ≤ x ∧ x < i → sec (cs.take i) x = sec cs x := by
          intro x hx
          unfold sec
          rw [getD_take _ _ (by omega)]
        simp only [secOf]
        rcases takes_cases cs[i].1 with ht | ht | ht
        · simp [ht]
        · rw [key _ (hok.2.2.2.1 (by omega))]; simp [ht]
        · rw [key _ (hok.2.2.2.1 (by omega)), key _ (hok.2.2.2.2.1 (by omega))]
      refine ⟨?_, fun j hj hjc => ?_⟩
      · rw [g1, lt, rng_succ, take_snoc _ hlt, hsec]
      · rcases Nat.lt_or_ge j i with hji | hji
        · exact f2 j hji hjc
        · obtain rfl : j = i := by omega
          exact g2
end Go.Proofs.YtnlkfkkgcaiklaaV
