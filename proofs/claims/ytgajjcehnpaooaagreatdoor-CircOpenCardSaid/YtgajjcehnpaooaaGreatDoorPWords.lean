/- What words a circuit's gates have: the document's function. -/
import Derived.Test.YtgajjcehnpaooaaGreatDoorPCirc
import Derived.Test.YtgajjcehnpaooaaGreatDoorPBits
namespace Go.Proofs.YtgajjcehnpaooaaGreatDoorV
set_option linter.unusedVariables false
set_option linter.unusedSimpArgs false

theorem ofInt_nat (w : BitVec 32) : BitVec.ofInt 32 (w.toNat : Int) = w := by
  apply BitVec.eq_of_toNat_eq
  simp
theorem wrap_nat (w : BitVec 32) : IntKind.u32.wrap (w.toNat : Int) = w.toNat := u32_in (by have := w.isLt; omega)
theorem wrap_add (a b : BitVec 32) : IntKind.u32.wrap ((a.toNat : Int) + b.toNat) = ((a + b).toNat : Int) := by
  rw [IntKind.wrap_u32, BitVec.toNat_add]; omega
theorem wrap_sub (a b : BitVec 32) : IntKind.u32.wrap ((a.toNat : Int) - b.toNat) = ((a - b).toNat : Int) := by
  have := a.isLt
  have := b.isLt
  rw [IntKind.wrap_u32, BitVec.toNat_sub]; omega
theorem wrap_not (a : BitVec 32) : IntKind.u32.wrap (4294967295 - (a.toNat : Int)) = ((~~~a).toNat : Int) := by
  have := a.isLt
  rw [IntKind.wrap_u32, BitVec.toNat_not]; omega
theorem nat_bw {n : Int} (h : 0 ≤ n ∧ n ≤ 4294967295) : ((BitVec.ofInt 32 n).toNat : Int) = n := by
  rw [BitVec.toNat_ofInt]; omega

/-- Words of a list, as whole numbers. -/
def WdL (l : List Int) : Prop := ∀ x ∈ l, 0 ≤ x ∧ x ≤ 4294967295

/-- A list's word; 0 beyond. -/
def atW (l : List Int) (n : Int) : BitVec 32 := BitVec.ofInt 32 (l.getD n.toNat 0)

def rotW (a : BitVec 32) (n : Nat) : BitVec 32 := Nat.repeat (fun z : BitVec 32 => z.rotateLeft 1) (n % 32) a

/-- A gate's word. -/
def ev (S P : List Int) (k : Int) (a b : BitVec 32) (n : Int) : BitVec 32 :=
  if k = 0 then BitVec.ofInt 32 n else if k = 1 then atW S n else if k = 2 then atW P n else if k = 3 then a &&& b else if k = 4 then a ^^^ b else if k = 5 then ~~~a
  else if k = 6 then a <<< n.toNat else if k = 7 then a >>> n.toNat else if k = 8 then rotW a n.toNat else if k = 9 then a ||| b else if k = 10 then a + b else a - b

def wstep (S P : List Int) (ws : List (BitVec 32)) (g : Gate) : List (BitVec 32) := ws ++ [ev S P g.1 (ws.getD g.2.1.toNat 0) (ws.getD g.2.2.1.toNat 0) g.2.2.2.1]

def wv (S P : List Int) (gs : List Gate) : List (BitVec 32) := gs.foldl (wstep S P) []

theorem wv_snoc (S P : List Int) (gs : List Gate) (g : Gate) : wv S P (gs ++ [g]) = wstep S P (wv S P gs) g := by simp [wv]
theorem wv_take (S P : List Int) (gs : List Gate) (i : Nat) (h : i < gs.length) : wv S P (gs.take (i + 1)) = wstep S P (wv S P (gs.take i)) gs[i] := by
  rw [take_snoc _ h]
  exact wv_snoc _ _ _ _
theorem wv_len (S P : List Int) (gs : List Gate) : (wv S P gs).length = gs.length := by
  have H : ∀ (l : List Gate) (ws : List (BitVec 32)), (l.foldl (wstep S P) ws).length = ws.length + l.length := by
    intro l
    induction l with
    | nil => intro ws; rfl
    | cons g l ih => intro ws; simp only [List.foldl_cons, ih, wstep, List.length_append, List.length_cons, List.length_nil]; omega
  have := H gs []
  simpa [wv] using this

/-- As whole numbers. -/
def nats (ws : List (BitVec 32)) : List Int := ws.map fun w => (w.toNat : Int)
theorem nats_get (ws : List (BitVec 32)) (i : Nat) : (nats ws).getD i 0 = ((ws.getD i 0).toNat : Int) := by
  simp only [nats, List.getD_eq_getElem?_getD, List.getElem?_map]
  cases ws[i]? <;> rfl
theorem nats_len (ws : List (BitVec 32)) : (nats ws).length = ws.length := by simp [nats]

theorem at_is (N : Nat) (l : List Int) (h : WdL l) (n : Int) (hn : 0 ≤ n ∧ n ≤ 4294967295) : bautaref15_at N l n = some ((atW l n).toNat : Int) := by
  simp only [bautaref15_at, bautaref15_at_T, run_br, run_ret, ltI_eq, decide_eq_true_eq, inRange_iff, i64_in (x := n) (by omega), atW]
  by_cases hlt : n < l.length
  · have hget : l.getD n.toNat 0 = l[n.toNat] := getD_nat _ _ _ (by omega)
    have hw := h (l[n.toNat]'(by omega)) (List.getElem_mem _)
    rw [if_pos hlt, if_pos (by omega), hget, nat_bw hw]
  · have hget : l.getD n.toNat 0 = 0 := by rw [List.getD_eq_getElem?_getD, List.getElem?_eq_none (by omega)]; rfl
    rw [if_neg hlt, hget]
    rfl

theorem words_j11 (N : Nat) (S P : List Int) (hS : WdL S) (hP : WdL P) (a b : BitVec 32) (ws : List Int) (k n : Int) (hk : 0 ≤ k ∧ k ≤ 11) (hn : 0 ≤ n ∧ n ≤ 4294967295) (h31 : 6 ≤ k ∧ k ≤ 8 → n ≤ 31) (hl : ws.length < 1000000) (hN : 100 < N) :
    bautaref15_Words_j11 N S P a.toNat b.toNat ws k n = some (ws ++ [((ev S P k a b n).toNat : Int)]) := by
  have cap : ((ws.length : Int) + 1) * 4 < 140737488355328 := by omega
  have e6 : ∀ op, 0 ≤ op ∧ op ≤ 3 → 6 ≤ k ∧ k ≤ 8 → bautaref01_Shift N op a.toNat n false = some (((shn op a n.toNat).toNat : Int), coutn op a false n.toNat) := by
    intro op hop h6
    have := h31 h6
    have hs := shift_is N op hop a n.toNat (by omega) false (by omega)
    rwa [show ((n.toNat : Nat) : Int) = n by omega] at hs
  obtain ⟨y, hy, hy2⟩ := rot_is N a n.toNat (by omega) (by omega)
  rw [show ((n.toNat : Nat) : Int) = n by omega] at hy
  simp only [bautaref15_Words_j11, bautaref15_Words_j11_T, run_br, run_call, run_ret, beq_iffI, ltI_eq, decide_eq_true_eq, cap, if_true, at_is N S hS n hn, at_is N P hP n hn, ofInt_nat, wrap_nat, wrap_add, wrap_sub, wrap_not, hy, Option.bind_some]
  rcases kinds hk with rfl | rfl | rfl | rfl | rfl | rfl | rfl | rfl | rfl | rfl | rfl | rfl
  · simp [ev]; omega
  · simp [ev]
  · simp [ev]
  · simp [ev]
  · simp [ev]
  · simp [ev]
  · simp [ev, e6 0 (by omega) (by omega), shn_left]
  · simp [ev, e6 1 (by omega) (by omega), shn_right]
  · simp [ev, rotW, hy2]
  · simp [ev]
  · simp [ev]
  · simp [ev]

theorem words_l5 (N : Nat) (gs : List Gate) (s p : Int) (S P : List Int) (hS : WdL S) (hP : WdL P) (h : ∀ i, i < gs.length → GateOK gs s p i (gs.getD i g0)) (hw : Wds gs) (hl : gs.length ≤ 8000) (hN : 8000 < N) :
    bautaref15_Words_l5 N S P gs (0, []) = some (nats (wv S P gs)) := by
  unfold bautaref15_Words_l5
  have := loop_up (s := fun v => bautaref15_Words_l5_T N S P gs v.1 v.2) (fun i : Nat => ((i : Int), nats (wv S P (gs.take i)))) gs.length (nats (wv S P gs)) (k := 0) (m := N) (by omega) (by omega) (fun i _ hlt => ?_) ?_
  · exact this
  · have hg : gs.getD i g0 = gs[i] := getD_nat _ _ _ hlt
    have hok := h i hlt
    have hwi := hw i hlt
    rw [hg] at hok hwi
    have hlen : (wv S P (gs.take i)).length = i := by rw [wv_len]; simp; omega
    have h31 : 6 ≤ gs[i].1 ∧ gs[i].1 ≤ 8 → gs[i].2.2.2.1 ≤ 31 := hok.2.2.2.2.2.1.2.2.1
    have j := fun a b => words_j11 N S P hS hP a b (nats (wv S P (gs.take i))) gs[i].1 gs[i].2.2.2.1 hok.1 hwi h31 (by rw [nats_len, hlen]; omega) (by omega)
    have hfin : ∀ a b, a = (wv S P (gs.take i)).getD gs[i].2.1.toNat 0 → b = (wv S P (gs.take i)).getD gs[i].2.2.1.toNat 0 → nats (wv S P (gs.take i)) ++ [((ev S P gs[i].1 a b gs[i].2.2.2.1).toNat : Int)] = nats (wv S P (gs.take (i + 1))) := by
      intro a b ha hb
      subst ha hb
      rw [wv_take S P gs i hlt]
      simp [nats, wstep]
    simp only [bautaref15_Words_l5_T, run_br, run_call, run_ret, ltI_eq, decide_eq_true_eq, inRange_iff, toNat_nat, hg, nats_len, hlen, nats_get, i64_succ (i := i) (by omega)]
    rw [if_pos (by omega), if_pos (by omega)]
    by_cases h0 : (0 : Int) < i
    · have b1 : 0 ≤ gs[i].2.1 ∧ gs[i].2.1 < (i : Int) := by
        rcases takes_cases gs[i].1 with ht | ht | ht
        · have := hok.2.1 (by omega); omega
        · have := hok.2.2.2.1 (by omega); omega
        · have := hok.2.2.2.1 (by omega); omega
      have b2 : 0 ≤ gs[i].2.2.1 ∧ gs[i].2.2.1 < (i : Int) := by
        rcases takes_cases gs[i].1 with ht | ht | ht
        · have := hok.2.2.1 (by omega); omega
        · have := hok.2.2.1 (by omega); omega
        · have := hok.2.2.2.2.1 (by omega); omega
      rw [if_pos h0, if_pos b1, if_pos b2, j, Option.bind_some, hfin _ _ rfl rfl]
    · obtain rfl : i = 0 := by omega
      have j0 := j 0 0
      rw [if_neg h0, show ((0 : BitVec 32).toNat : Int) = 0 from rfl] at *
      rw [j0, Option.bind_some, hfin 0 0 rfl rfl]
  · simp [bautaref15_Words_l5_T]

theorem words_is (N : Nat) (gs : List Gate) (s p : Int) (os : List GOut) (S P : List Int) (hS : WdL S) (hP : WdL P) (hw : Wds gs) (ho : os.length ≤ 8000) (hN : 8000 < N) :
    bautaref15_Words N gs s p os S P = some (if CanOK gs s p os then nats (wv S P gs) else []) := by
  simp only [bautaref15_Words, bautaref15_Words_T, run_br, run_call, run_ret, ref_can N gs s p os hw (by omega) (by omega) (by omega), Option.bind_some]
  by_cases hc : CanOK gs s p os
  · simp [hc, words_l5 N gs s p S P hS hP hc.2.2.2.1 hw hc.2.2.1 hN]
  · simp [hc]

/-- The outputs' words. -/
def outv (S P : List Int) (gs : List Gate) (os : List GOut) : List Int := os.map fun o => (((wv S P gs).getD o.2.toNat 0).toNat : Int)

theorem outs_is (N : Nat) (gs : List Gate) (s p : Int) (os : List GOut) (S P : List Int) (hS : WdL S) (hP : WdL P) (hw : Wds gs) (ho : os.length ≤ 8000) (hN : 8000 < N) :
    bautaref15_Outs N gs s p os S P = some (if CanOK gs s p os then outv S P gs os else []) := by
  simp only [bautaref15_Outs, bautaref15_Outs_T, run_call, run_ret, words_is N gs s p os S P hS hP hw ho hN, Option.bind_some]
  by_cases hc : CanOK gs s p os
  · rw [if_pos hc, if_pos hc]
    have l3 : bautaref15_Outs_l3 N gs s p os (nats (wv S P gs)) (0, []) = some (outv S P gs os) := by
      unfold bautaref15_Outs_l3
      have := loop_up (s := fun v => bautaref15_Outs_l3_T N gs s p os (nats (wv S P gs)) v.1 v.2) (fun i : Nat => ((i : Int), outv S P gs (os.take i))) os.length (outv S P gs os) (k := 0) (m := N) (by omega) (by omega) (fun i _ hi => ?_) ?_
      · exact this
      · have hg : os.getD i (ByteArray.empty, 0) = os[i] := getD_nat _ _ _ hi
        have hb := hc.2.2.2.2 i hi
        rw [hg] at hb
        have hll : (outv S P gs (os.take i)).length = i := by simp [outv]; omega
        simp only [bautaref15_Outs_l3_T, run_br, run_call, run_ret, ltI_eq, decide_eq_true_eq, nats_len, wv_len, beq_iffI, ref_can N gs s p os hw (by omega) (by omega) (by omega), Option.bind_some, hc, if_true, bautaref15_Outs_j5, bautaref15_Outs_j5_T, inRange_iff, toNat_nat, hg, hll, nats_get, i64_succ (i := i) (by omega)]
        rw [if_pos (by omega), if_pos (by omega), if_pos (by omega), if_pos (by omega), take_snoc _ hi]
        simp only [outv, List.map_append, List.map_cons, List.map_nil, Option.bind_some]
      · simp [bautaref15_Outs_l3_T]
    rw [l3]
    rfl
  · rw [if_neg hc, if_neg hc]
    have l3 : bautaref15_Outs_l3 N gs s p os [] (0, []) = some [] := by
      unfold bautaref15_Outs_l3
      refine loop_stop (by omega) ?_
      simp only [bautaref15_Outs_l3_T, run_br, run_call, run_ret, ref_can N gs s p os hw (by omega) (by omega) (by omega), Option.bind_some, hc]
      simp
    rw [l3]
    rfl

theorem sameL_refl (N : Nat) (l : List Int) (h : l.length ≤ 9000000) (hN : l.length < N) : bautaref05_Same N l l = some true := by
  have l4 : bautaref05_Same_l4 N l l 0 = some (.inr ()) := by
    unfold bautaref05_Same_l4
    refine loop_up (s := fun v => bautaref05_Same_l4_T N l l v) (fun i : Nat => (i : Int)) l.length _ (k := 0) (m := N) (by omega) (by omega) (fun i _ hi => ?_) ?_
    · simp [bautaref05_Same_l4_T, i64_succ (i := i) (by omega), inRange_iff, hi]
    · simp [bautaref05_Same_l4_T]
  simp [bautaref05_Same, bautaref05_Same_T, l4]
end Go.Proofs.YtgajjcehnpaooaaGreatDoorV
