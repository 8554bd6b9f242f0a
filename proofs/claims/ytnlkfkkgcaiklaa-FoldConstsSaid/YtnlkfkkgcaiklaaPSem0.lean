/- Gates of a circuit that is made, one behind the other: secret or not, their words. -/
import Derived.Test.YtnlkfkkgcaiklaaPPlain
import Derived.Test.YtnlkfkkgcaiklaaPWordsR0
namespace Go.Proofs.YtnlkfkkgcaiklaaV
set_option linter.unusedVariables false
set_option linter.unusedSimpArgs false

/-- A gate is among these. -/
def In (gs : List Gate) (x : Int) : Prop := 0 ≤ x ∧ x < gs.length

/-- One gate more; and which it is. -/
def app (gs : List Gate) (k a b n : Int) : Int × List Gate := ((gs.length : Int), gs ++ [(k, (a, (b, (n, secOf gs k a b))))])

theorem app_len (gs : List Gate) (k a b n : Int) : (app gs k a b n).2.length = gs.length + 1 := by simp [app]
theorem app_new (gs : List Gate) (k a b n : Int) : In (app gs k a b n).2 (app gs k a b n).1 := by simp [app, In]; omega
theorem app_old {gs : List Gate} {x : Int} (h : In gs x) (k a b n : Int) : In (app gs k a b n).2 x := by simp [app, In] at h ⊢; omega

theorem In.r {gs : List Gate} {x : Int} (h : In gs x) : (0 ≤ x ∧ x < (gs.length : Int)) = True := by simp; exact h

/-- All gates are as they should be, each of those ahead of it. -/
def AllOK (gs : List Gate) (s p : Int) : Prop := ∀ i, i < gs.length → GateOK gs s p i (gs.getD i g0)

section sem
variable (S P : List Int)

def Wat (gs : List Gate) (x : Int) : BitVec 32 := (wv S P gs).getD x.toNat 0

/-- What is known of a gate: it is there; is it secret; its word. -/
def Hd (gs : List Gate) (x : Int) (t : Bool) (w : BitVec 32) : Prop := In gs x ∧ sec gs x = t ∧ Wat S P gs x = w

theorem sec_old {gs : List Gate} {x : Int} (h : In gs x) (g : Gate) : sec (gs ++ [g]) x = sec gs x := by
  unfold In at h
  simp only [sec]
  rw [getD_left _ _ _ (by omega)]
theorem Wat_old {gs : List Gate} {x : Int} (h : In gs x) (g : Gate) : Wat S P (gs ++ [g]) x = Wat S P gs x := by
  unfold In at h
  simp only [Wat, wv_snoc, wstep]
  rw [getD_left _ _ _ (by rw [wv_len]; omega)]

variable {S P}
theorem Hd.old {gs : List Gate} {x : Int} {t : Bool} {w : BitVec 32} (h : Hd S P gs x t w) (k a b n : Int) : Hd S P (app gs k a b n).2 x t w :=
  ⟨app_old h.1 k a b n, (sec_old h.1 _).trans h.2.1, (Wat_old S P h.1 _).trans h.2.2⟩

theorem Hd.new (gs : List Gate) (k a b n : Int) : Hd S P (app gs k a b n).2 (app gs k a b n).1 (secOf gs k a b) (ev S P k (Wat S P gs a) (Wat S P gs b) n) := by
  refine ⟨app_new gs k a b n, ?_, ?_⟩
  · simp only [sec, app, toNat_nat]
    rw [getD_last _ _ _ rfl]
  · simp only [Wat, app, toNat_nat, wv_snoc, wstep]
    rw [getD_last _ _ _ (by rw [wv_len])]
end sem

theorem secOf_old {gs : List Gate} {k a b : Int} (h1 : 1 ≤ takes k → In gs a) (h2 : 2 ≤ takes k → In gs b) (g : Gate) : secOf (gs ++ [g]) k a b = secOf gs k a b := by
  simp only [secOf]
  rcases takes_cases k with ht | ht | ht
  · simp [ht]
  · simp [ht, sec_old (h1 (by omega))]
  · simp [ht, sec_old (h1 (by omega)), sec_old (h2 (by omega))]

theorem AllOK.app {gs : List Gate} {s p k a b n : Int} (h : AllOK gs s p) (hk : 0 ≤ k ∧ k ≤ 11) (h0 : takes k < 1 → a = 0) (h0' : takes k < 2 → b = 0) (h1 : 1 ≤ takes k → In gs a) (h2 : 2 ≤ takes k → In gs b) (hn : NumOK s p k n) : AllOK (app gs k a b n).2 s p := by
  intro i hi
  rw [app_len] at hi
  rcases Nat.lt_or_ge i gs.length with hlt | hge
  · have hok := h i hlt
    have e : (Proofs.YtnlkfkkgcaiklaaV.app gs k a b n).2.getD i g0 = gs.getD i g0 := getD_left _ _ _ hlt
    rw [e]
    generalize gs.getD i g0 = g at *
    refine ⟨hok.1, hok.2.1, hok.2.2.1, hok.2.2.2.1, hok.2.2.2.2.1, hok.2.2.2.2.2.1, ?_⟩
    rw [hok.2.2.2.2.2.2]
    exact (secOf_old (fun h => by have := hok.2.2.2.1 h; unfold In; omega) (fun h => by have := hok.2.2.2.2.1 h; unfold In; omega) _).symm
  · obtain rfl : i = gs.length := by omega
    have e : (Proofs.YtnlkfkkgcaiklaaV.app gs k a b n).2.getD gs.length g0 = (k, (a, (b, (n, secOf gs k a b)))) := getD_last _ _ _ rfl
    rw [e]
    exact ⟨hk, h0, h0', h1, h2, hn, (secOf_old h1 h2 _).symm⟩

section
variable {S P : List Int} {s p : Int}
theorem wv_split (l r : List Gate) : ∃ t, wv S P (l ++ r) = wv S P l ++ t := by
  induction r generalizing l with
  | nil => exact ⟨[], by simp⟩
  | cons g r ih =>
    obtain ⟨t, ht⟩ := ih (l ++ [g])
    rw [List.append_cons, ht, wv_snoc, wstep, List.append_assoc]
    exact ⟨_, rfl⟩

theorem wv_prefix (gs : List Gate) {i j : Nat} (hj : j < i) (hi : i ≤ gs.length) : (wv S P (gs.take i)).getD j 0 = (wv S P gs).getD j 0 := by
  obtain ⟨t, ht⟩ := wv_split (S := S) (P := P) (gs.take i) (gs.drop i)
  rw [List.take_append_drop] at ht
  rw [ht, getD_left _ _ _ (by rw [wv_len]; simp; omega)]

theorem wat_gate {gs : List Gate} {i : Nat} (hi : i < gs.length) (hok : GateOK gs s p i gs[i]) : Wat S P gs i = ev S P gs[i].1 (Wat S P gs gs[i].2.1) (Wat S P gs gs[i].2.2.1) gs[i].2.2.2.1 := by
  have e : (wv S P gs).getD i 0 = ev S P gs[i].1 ((wv S P (gs.take i)).getD gs[i].2.1.toNat 0) ((wv S P (gs.take i)).getD gs[i].2.2.1.toNat 0) gs[i].2.2.2.1 := by
    rw [← wv_prefix gs (Nat.lt_succ_self i) (by omega), wv_take S P gs i hi, wstep, getD_last _ _ _ (by rw [wv_len]; simp; omega)]
  simp only [Wat, toNat_nat, e]
  refine ev_congr hok.1 (fun h => ?_) (fun h => ?_)
  · have := hok.2.2.2.1 h
    exact wv_prefix gs (by omega) (by omega)
  · have := hok.2.2.2.2.1 h
    exact wv_prefix gs (by omega) (by omega)

end
end Go.Proofs.YtnlkfkkgcaiklaaV
