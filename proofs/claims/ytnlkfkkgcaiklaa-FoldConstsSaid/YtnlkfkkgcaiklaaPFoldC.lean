/- What the maker's gates are: that they are a circuit in which no two are alike, and their words. Plain. -/
import Derived.Test.YtnlkfkkgcaiklaaPFoldA
namespace Go.Proofs.YtnlkfkkgcaiklaaV
set_option linter.unusedVariables false
set_option linter.unusedSimpArgs false

theorem keyG_inv {k a b n k' a' b' n' : Int} (h : keyG k a b n = keyG k' a' b' n') : k = k' ∧ n = n' ∧ ((a = a' ∧ b = b') ∨ ((k = 3 ∨ k = 4) ∧ a = b' ∧ b = a')) := by
  unfold keyG at h
  split at h <;> split at h <;> simp only [Prod.mk.injEq] at h <;> grind

theorem fnd_some {key : Gate} : ∀ {gs : List Gate} {i : Nat}, fnd key gs = some i → ∃ h : i < gs.length, kg gs[i] = key
  | [], i, h => by cases h
  | g :: l, i, h => by
    simp only [fnd] at h
    split at h
    · rename_i hk
      cases h
      exact ⟨by simp, hk.symm⟩
    · simp only [Option.map_eq_some_iff] at h
      obtain ⟨j, hj, rfl⟩ := h
      obtain ⟨h1, h2⟩ := fnd_some hj
      exact ⟨by simp; exact h1, by simpa using h2⟩

theorem fnd_none {key : Gate} : ∀ {gs : List Gate}, fnd key gs = none → ∀ g ∈ gs, kg g ≠ key
  | [], _, g, hg => by cases hg
  | x :: l, h, g, hg => by
    simp only [fnd] at h
    split at h
    · cases h
    · rename_i hk
      simp only [Option.map_eq_none_iff] at h
      rcases List.mem_cons.1 hg with rfl | hg
      · exact fun e => hk e.symm
      · exact fnd_none h g hg

/-- A circuit of few kinds in which no two gates are alike. -/
structure Inv (s p : Int) (gs : List Gate) : Prop where
  ok : AllOK gs s p
  few : FewK gs
  wd : Wds gs
  kd : (gs.map kg).Nodup

/-- What comes of a gate: it is one of these, its word, secret only if so. -/
structure Res (s p : Int) (gs : List Gate) (r : Int × List Gate) (t : Bool) (w : List Int → List Int → BitVec 32) : Prop where
  pre : ∃ l, r.2 = gs ++ l ∧ l.length ≤ 1
  inv : Inv s p r.2
  inn : In r.2 r.1
  wat : ∀ S P, Wat S P r.2 r.1 = w S P
  sec : sec r.2 r.1 = true → t = true

theorem gat_In {gs : List Gate} {x : Int} (h : In gs x) : ∃ i : Nat, ∃ hi : i < gs.length, x = (i : Int) ∧ gat gs x = gs[i] := by
  unfold In at h
  refine ⟨x.toNat, by omega, by omega, ?_⟩
  unfold gat
  exact getD_nat _ _ _ (by omega)

theorem In.ok {gs : List Gate} {x s p : Int} (h : In gs x) (ho : AllOK gs s p) : ∃ i : Nat, ∃ hi : i < gs.length, x = (i : Int) ∧ gat gs x = gs[i] ∧ GateOK gs s p i gs[i] ∧ (∀ S P, Wat S P gs x = ev S P gs[i].1 (Wat S P gs gs[i].2.1) (Wat S P gs gs[i].2.2.1) gs[i].2.2.2.1) ∧
    sec gs x = secOf gs gs[i].1 gs[i].2.1 gs[i].2.2.1 := by
  obtain ⟨i, hi, rfl, hg⟩ := gat_In h
  have hok := ho i hi
  rw [getD_nat _ _ _ hi] at hok
  refine ⟨i, hi, rfl, hg, hok, fun S P => wat_gate hi hok, ?_⟩
  unfold sec
  rw [toNat_nat, getD_nat _ _ _ hi]
  exact hok.2.2.2.2.2.2

theorem sec_app {gs : List Gate} {x : Int} (h : In gs x) (l : List Gate) : sec (gs ++ l) x = sec gs x := by
  unfold In at h
  simp only [sec]
  rw [getD_left _ _ _ (by omega)]
theorem Wat_app {gs : List Gate} {x : Int} (h : In gs x) (l : List Gate) (S P : List Int) : Wat S P (gs ++ l) x = Wat S P gs x := by
  unfold In at h
  obtain ⟨t, ht⟩ := wv_split (S := S) (P := P) gs l
  simp only [Wat, ht]
  rw [getD_left _ _ _ (by rw [wv_len]; omega)]
theorem In_app {gs : List Gate} {x : Int} (h : In gs x) (l : List Gate) : In (gs ++ l) x := by
  unfold In at h ⊢
  simp only [List.length_append]
  omega

def wk (k : Int) : Nat := if k = 3 ∨ k = 4 then 3 else if 5 ≤ k then 2 else 1
def wt (gs : List Gate) : Nat := (gs.map fun g => wk g.1).sum
theorem wt_app (l r : List Gate) : wt (l ++ r) = wt l + wt r := by simp [wt]
theorem wk_pos (k : Int) : 0 < wk k := by unfold wk; split <;> (try split) <;> omega

theorem ev_swap (S P : List Int) {k : Int} (hk : k = 3 ∨ k = 4) (a b : BitVec 32) (n : Int) : ev S P k a b n = ev S P k b a n := by
  rcases hk with rfl | rfl
  · simp [ev, BitVec.and_comm]
  · simp [ev, BitVec.xor_comm]
theorem secOf_swap (gs : List Gate) {k : Int} (hk : k = 3 ∨ k = 4) (a b : Int) : secOf gs k a b = secOf gs k b a := by
  have : takes k = 2 := by rcases hk with rfl | rfl <;> rfl
  have h1 : k ≠ 1 := by rcases hk with rfl | rfl <;> decide
  simp only [secOf, this, h1]
  cases sec gs a <;> cases sec gs b <;> rfl

theorem add_res {s p : Int} {gs : List Gate} (hI : Inv s p gs) {k a b n : Int} (hk : 0 ≤ k ∧ k ≤ 8) (h0 : takes k < 1 → a = 0) (h0' : takes k < 2 → b = 0) (h1 : 1 ≤ takes k → In gs a) (h2 : 2 ≤ takes k → In gs b) (hn : NumOK s p k n) (hw : 0 ≤ n ∧ n ≤ 4294967295) :
    Res s p gs (addG gs k a b n) (secOf gs k a b) (fun S P => ev S P k (Wat S P gs a) (Wat S P gs b) n) := by
  unfold addG
  cases hf : fnd (keyG k a b n) gs with
  | some i =>
    obtain ⟨hi, hke⟩ := fnd_some hf
    simp only
    have hin : In gs (i : Int) := by unfold In; omega
    obtain ⟨j, hj, e, hg, hok, hwat, hsec⟩ := hin.ok hI.ok
    obtain rfl : i = j := by omega
    obtain ⟨e1, e2, e3⟩ := keyG_inv (show keyG gs[i].1 gs[i].2.1 gs[i].2.2.1 gs[i].2.2.2.1 = keyG k a b n from hke)
    refine ⟨⟨[], by simp, by simp⟩, hI, hin, fun S P => ?_, ?_⟩
    · rw [hwat, e1, e2]
      rcases e3 with ⟨e3, e4⟩ | ⟨hkk, e3, e4⟩
      · rw [e3, e4]
      · rw [e1] at hkk
        rw [e3, e4, ev_swap S P hkk]
    · rw [hsec, e1]
      rcases e3 with ⟨e3, e4⟩ | ⟨hkk, e3, e4⟩
      · rw [e3, e4]; exact id
      · rw [e1] at hkk
        rw [e3, e4, secOf_swap gs hkk]; exact id
  | none =>
    simp only
    have happ := AllOK.app hI.ok (n := n) ⟨hk.1, by omega⟩ h0 h0' h1 h2 hn
    have hh := fun S P => Hd.new (S := S) (P := P) gs k a b n
    refine ⟨⟨_, rfl, by simp⟩, ⟨happ, ?_, ?_, ?_⟩, app_new gs k a b n, fun S P => (hh S P).2.2, fun h => ?_⟩
    · intro i hi
      rcases Nat.lt_or_ge i gs.length with h | h
      · rw [getD_left _ _ _ h]; exact hI.few i h
      · rw [getD_last _ _ _ (by simp at hi; omega)]; exact hk.2
    · intro i hi
      rcases Nat.lt_or_ge i gs.length with h | h
      · rw [getD_left _ _ _ h]; exact hI.wd i h
      · rw [getD_last _ _ _ (by simp at hi; omega)]; exact hw
    · rw [List.map_append, List.nodup_append]
      refine ⟨hI.kd, by simp, fun x hx y hy => ?_⟩
      simp only [List.map_cons, List.map_nil, List.mem_singleton] at hy
      subst hy
      obtain ⟨g, hg, rfl⟩ := List.mem_map.1 hx
      exact fnd_none hf g hg
    · exact (hh [] []).2.1.symm.trans h

theorem add_wt (gs : List Gate) (k a b n : Int) : wt (addG gs k a b n).2 ≤ wt gs + wk k := by
  unfold addG
  cases fnd (keyG k a b n) gs with
  | some i => simp only; omega
  | none => simp only [wt_app]; simp [wt]
theorem add_eq {gs : List Gate} {k a b n : Int} (h : wt gs < wt (addG gs k a b n).2) : fnd (keyG k a b n) gs = none ∧ addG gs k a b n = ((gs.length : Int), gs ++ [(k, (a, (b, (n, secOf gs k a b))))]) := by
  unfold addG at h ⊢
  cases hf : fnd (keyG k a b n) gs with
  | some i => rw [hf] at h; simp at h
  | none => exact ⟨rfl, rfl⟩

theorem numOK0 (s p n : Int) : NumOK s p 0 n := ⟨by simp, by simp, by omega, by omega⟩

theorem const_res {s p : Int} {gs : List Gate} (hI : Inv s p gs) (x : BitVec 32) (t : Bool) : Res s p gs (addG gs 0 0 0 (x.toNat : Int)) t (fun _ _ => x) := by
  have := add_res hI (k := 0) (a := 0) (b := 0) (n := (x.toNat : Int)) (by omega) (by simp) (by simp) (by simp [takes]) (by simp [takes]) (numOK0 _ _ _) (by have := x.isLt; omega)
  refine ⟨this.pre, this.inv, this.inn, fun S P => ?_, fun h => ?_⟩
  · rw [this.wat]; simp [ev, ofInt_nat]
  · have := this.sec h; simp [secOf, takes] at this

theorem cst_wat {s p : Int} {gs : List Gate} (hI : Inv s p gs) {a : Int} (ha : In gs a) (hc : cst gs a = true) : (∀ S P, Wat S P gs a = BitVec.ofInt 32 (num gs a)) ∧ sec gs a = false := by
  obtain ⟨i, hi, rfl, hg, hok, hwat, hsec⟩ := ha.ok hI.ok
  have h0 : gs[i].1 = 0 := by simpa [cst, hg] using hc
  refine ⟨fun S P => ?_, ?_⟩
  · rw [hwat, h0]; simp [ev, num, hg]
  · rw [hsec, h0]; simp [secOf, takes]

theorem res_same {s p : Int} {gs : List Gate} (hI : Inv s p gs) {a : Int} (ha : In gs a) {t : Bool} (ht : sec gs a = true → t = true) : Res s p gs (a, gs) t (fun S P => Wat S P gs a) :=
  ⟨⟨[], by simp, by simp⟩, hI, ha, fun _ _ => rfl, ht⟩

theorem Res.cast {s p : Int} {gs : List Gate} {r : Int × List Gate} {t t' : Bool} {w w' : List Int → List Int → BitVec 32} (h : Res s p gs r t w) (ht : t = true → t' = true) (hw : ∀ S P, w S P = w' S P) : Res s p gs r t' w' :=
  ⟨h.pre, h.inv, h.inn, fun S P => (h.wat S P).trans (hw S P), fun hh => ht (h.sec hh)⟩

theorem bw_not (x : BitVec 32) : BitVec.ofInt 32 4294967295 ^^^ x = ~~~x := xor_ones x

theorem not_res {s p : Int} {gs : List Gate} (hI : Inv s p gs) {a : Int} (ha : In gs a) : Res s p gs (notG gs a) (sec gs a) (fun S P => ~~~ Wat S P gs a) := by
  unfold notG
  split
  · rename_i hc
    rw [wrap_nat]
    refine (const_res hI _ (sec gs a)).cast id (fun S P => ?_)
    rw [(cst_wat hI ha hc).1, bw_not]
  · split
    · rename_i h5
      obtain ⟨i, hi, rfl, hg, hok, hwat, hsec⟩ := ha.ok hI.ok
      rw [hg] at h5 ⊢
      have hA : In gs gs[i].2.1 := by
        have := hok.2.2.2.1 (by rw [h5]; decide)
        unfold In; omega
      refine (res_same hI hA (t := sec gs i) (fun h => ?_)).cast id (fun S P => ?_)
      · rw [hsec, h5]; simp [secOf, takes, h]
      · rw [hwat, h5]; simp [ev]
    · refine (add_res hI (k := 5) (a := a) (b := 0) (n := 0) (by omega) (by simp [takes]) (by simp) (fun _ => ha) (by simp [takes]) ⟨by simp, by simp, by omega, by omega⟩ (by omega)).cast (fun h => ?_) (fun S P => ?_)
      · simpa [secOf, takes] using h
      · simp [ev]

theorem and_res {s p : Int} {gs : List Gate} (hI : Inv s p gs) {a b : Int} (ha : In gs a) (hb : In gs b) : Res s p gs (andG gs a b) (sec gs a || sec gs b) (fun S P => Wat S P gs a &&& Wat S P gs b) := by
  unfold andG
  split
  · rename_i h
    rw [wrap_nat]
    refine (const_res hI _ _).cast id (fun S P => ?_)
    rw [(cst_wat hI ha h.1).1, (cst_wat hI hb h.2).1]
  · split
    · rename_i h
      refine (res_same hI hb (t := sec gs a || sec gs b) (fun h => by simp [h])).cast id (fun S P => ?_)
      rcases h with ⟨h1, h2⟩ | rfl
      · rw [(cst_wat hI ha h1).1, h2]
        exact (BitVec.allOnes_and (x := Wat S P gs b)).symm
      · simp
    · split
      · rename_i h
        refine (res_same hI ha (t := sec gs a || sec gs b) (fun h => by simp [h])).cast id (fun S P => ?_)
        rw [(cst_wat hI hb h.1).1, h.2]
        exact (BitVec.and_allOnes (x := Wat S P gs a)).symm
      · split
        · rename_i h
          refine (const_res hI 0 _).cast id (fun S P => ?_)
          rcases h with h | h
          · rw [(cst_wat hI ha h.1).1, h.2]; exact (BitVec.zero_and).symm
          · rw [(cst_wat hI hb h.1).1, h.2]; exact (BitVec.and_zero).symm
        · refine (add_res hI (k := 3) (a := a) (b := b) (n := 0) (by omega) (by simp [takes]) (by simp [takes]) (fun _ => ha) (fun _ => hb) ⟨by simp, by simp, by omega, by omega⟩ (by omega)).cast (fun h => ?_) (fun S P => ?_)
          · simpa [secOf, takes] using h
          · simp [ev]

theorem xor_res {s p : Int} {gs : List Gate} (hI : Inv s p gs) {a b : Int} (ha : In gs a) (hb : In gs b) : Res s p gs (xorG gs a b) (sec gs a || sec gs b) (fun S P => Wat S P gs a ^^^ Wat S P gs b) := by
  unfold xorG
  split
  · rename_i h
    rw [wrap_nat]
    refine (const_res hI _ _).cast id (fun S P => ?_)
    rw [(cst_wat hI ha h.1).1, (cst_wat hI hb h.2).1]
  · split
    · rename_i h
      subst h
      refine (const_res hI 0 _).cast id (fun S P => ?_)
      exact (BitVec.xor_self).symm
    · split
      · rename_i h
        refine (res_same hI hb (t := sec gs a || sec gs b) (fun h => by simp [h])).cast id (fun S P => ?_)
        rw [(cst_wat hI ha h.1).1, h.2]; exact (BitVec.zero_xor).symm
      · split
        · rename_i h
          refine (res_same hI ha (t := sec gs a || sec gs b) (fun h => by simp [h])).cast id (fun S P => ?_)
          rw [(cst_wat hI hb h.1).1, h.2]; exact (BitVec.xor_zero).symm
        · split
          · rename_i h
            refine (not_res hI hb).cast (fun h => by simp [h]) (fun S P => ?_)
            rw [(cst_wat hI ha h.1).1, h.2]; exact (bw_not _).symm
          · split
            · rename_i h
              refine (not_res hI ha).cast (fun h => by simp [h]) (fun S P => ?_)
              rw [(cst_wat hI hb h.1).1, h.2, BitVec.xor_comm]; exact (bw_not _).symm
            · refine (add_res hI (k := 4) (a := a) (b := b) (n := 0) (by omega) (by simp [takes]) (by simp [takes]) (fun _ => ha) (fun _ => hb) ⟨by simp, by simp, by omega, by omega⟩ (by omega)).cast (fun h => ?_) (fun S P => ?_)
              · simpa [secOf, takes] using h
              · simp [ev]

theorem shW_ev (S P : List Int) {k : Int} (hk : 6 ≤ k ∧ k ≤ 8) (x y : BitVec 32) (n : Int) : ev S P k x y n = shW k x n := by
  rcases (by omega : k = 6 ∨ k = 7 ∨ k = 8) with rfl | rfl | rfl <;> simp [ev, shW]
theorem shW_zero {k : Int} (x : BitVec 32) : shW k x 0 = x := by
  unfold shW
  split
  · simp
  · split
    · simp
    · simp [rotW, Nat.repeat]

theorem shift_res {s p : Int} {gs : List Gate} (hI : Inv s p gs) {k n a : Int} (hk : 6 ≤ k ∧ k ≤ 8) (hn : 0 ≤ n ∧ n ≤ 31) (ha : In gs a) : Res s p gs (shiftG gs k n a) (sec gs a) (fun S P => shW k (Wat S P gs a) n) := by
  have ht : takes k = 1 := by unfold takes; grind
  unfold shiftG
  split
  · rename_i h
    subst h
    exact (res_same hI ha id).cast id (fun S P => (shW_zero _).symm)
  · split
    · refine (add_res hI (k := k) (a := a) (b := 0) (n := n) (by omega) (by omega) (by simp) (fun _ => ha) (by omega) ⟨by omega, by omega, by omega, by omega⟩ (by omega)).cast (fun h => ?_) (fun S P => ?_)
      · have : k ≠ 1 := by omega
        simpa [secOf, ht, this] using h
      · exact shW_ev S P hk _ _ n
    · rename_i h
      refine (const_res hI _ _).cast id (fun S P => ?_)
      rw [(cst_wat hI ha (by simpa using h)).1]

/-- What stands for gates so far: one for each, its word, secret only if it is. -/
def Now (s p : Int) (cs : List Gate) (i : Nat) (now : List Int) (gs : List Gate) : Prop :=
  now.length = i ∧ ∀ j, j < i → In gs (now.getD j 0) ∧ (∀ S P, Wat S P gs (now.getD j 0) = Wat S P cs j) ∧ (sec gs (now.getD j 0) = true → sec cs j = true)

theorem gate_res {s p : Int} {cs : List Gate} (hc : AllOK cs s p) (hf : FewK cs) (hwd : Wds cs) {i : Nat} (hi : i < cs.length) {now : List Int} {gs : List Gate} (hI : Inv s p gs) (hN : Now s p cs i now gs) :
    Res s p gs (gateG gs now cs[i]) (sec cs i) (fun S P => Wat S P cs i) := by
  have hin : In cs (i : Int) := by unfold In; omega
  obtain ⟨j, hj, e, hg, hok, hwat, hsec⟩ := hin.ok hc
  obtain rfl : i = j := by omega
  have hk8 : cs[i].1 ≤ 8 := by have := hf i hi; rwa [getD_nat _ _ _ hi] at this
  have hwi := hwd i hi
  rw [getD_nat _ _ _ hi] at hwi
  generalize cs[i] = g at *
  obtain ⟨k, a, b, n, c⟩ := g
  simp only at hok hwat hsec hk8 hwi ⊢
  obtain ⟨hk, h0, h0', h1, h2, hn, hcc⟩ := hok
  simp only at hk h0 h0' h1 h2 hn hcc
  have hA : 1 ≤ takes k → In gs (now.getD a.toNat 0) ∧ (∀ S P, Wat S P gs (now.getD a.toNat 0) = Wat S P cs a) ∧ (sec gs (now.getD a.toNat 0) = true → sec cs a = true) := by
    intro h
    have := h1 h
    have := hN.2 a.toNat (by omega)
    rwa [show ((a.toNat : Nat) : Int) = a by omega] at this
  have hB : 2 ≤ takes k → In gs (now.getD b.toNat 0) ∧ (∀ S P, Wat S P gs (now.getD b.toNat 0) = Wat S P cs b) ∧ (sec gs (now.getD b.toNat 0) = true → sec cs b = true) := by
    intro h
    have := h2 h
    have := hN.2 b.toNat (by omega)
    rwa [show ((b.toNat : Nat) : Int) = b by omega] at this
  unfold gateG
  simp only
  split
  · rename_i h3
    subst h3
    obtain ⟨a1, a2, a3⟩ := hA (by decide)
    obtain ⟨b1, b2, b3⟩ := hB (by decide)
    refine (and_res hI a1 b1).cast (fun h => ?_) (fun S P => ?_)
    · rw [hsec]; simp only [Bool.or_eq_true] at h; simp [secOf, takes]; rcases h with h | h
      · exact .inl (a3 h)
      · exact .inr (b3 h)
    · rw [hwat, a2, b2]; simp [ev]
  split
  · rename_i h3
    subst h3
    obtain ⟨a1, a2, a3⟩ := hA (by decide)
    obtain ⟨b1, b2, b3⟩ := hB (by decide)
    refine (xor_res hI a1 b1).cast (fun h => ?_) (fun S P => ?_)
    · rw [hsec]; simp only [Bool.or_eq_true] at h; simp [secOf, takes]; rcases h with h | h
      · exact .inl (a3 h)
      · exact .inr (b3 h)
    · rw [hwat, a2, b2]; simp [ev]
  split
  · rename_i h3
    subst h3
    obtain ⟨a1, a2, a3⟩ := hA (by decide)
    refine (not_res hI a1).cast (fun h => ?_) (fun S P => ?_)
    · rw [hsec]; simp [secOf, takes]; exact a3 h
    · rw [hwat, a2]; simp [ev]
  split
  · rename_i h6
    have ht : takes k = 1 := by unfold takes; grind
    obtain ⟨a1, a2, a3⟩ := hA (by omega)
    refine (shift_res hI (by omega) ⟨hwi.1, hn.2.2.1 (by omega)⟩ a1).cast (fun h => ?_) (fun S P => ?_)
    · have : k ≠ 1 := by omega
      rw [hsec]; simp [secOf, ht, this]; exact a3 h
    · rw [hwat, a2, shW_ev S P (by omega)]
  · have ht : takes k = 0 := by unfold takes; grind
    obtain rfl := h0 (by omega)
    obtain rfl := h0' (by omega)
    refine (add_res hI (k := k) (a := 0) (b := 0) (n := n) (by omega) (by simp) (by simp) (by omega) (by omega) hn hwi).cast (fun h => ?_) (fun S P => ?_)
    · rw [hsec]; simpa [secOf, ht] using h
    · rw [hwat]
      exact ev_congr ⟨hk.1, hk.2⟩ (by omega) (by omega)
end Go.Proofs.YtnlkfkkgcaiklaaV
