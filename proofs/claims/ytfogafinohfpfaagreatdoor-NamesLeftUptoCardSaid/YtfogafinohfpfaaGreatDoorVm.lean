/- What an operation does hangs on what it looks at alone. -/
import Derived.Test.YtfogafinohfpfaaGreatDoorVk
namespace Go.Proofs.YtfogafinohfpfaaGreatDoorV
open Go.RowKit
set_option linter.unusedVariables false
set_option linter.unusedSimpArgs false

variable {P : Program} {m m2 : Rows}

def Same (m m2 : Rows) (rd : List Nat) : Prop := ∀ r ∈ rd, look m2 r = look m r

theorem Same.left {a b} (h : Same m m2 (a ++ b)) : Same m m2 a := fun r hr => h r (List.mem_append.2 (.inl hr))
theorem Same.right {a b} (h : Same m m2 (a ++ b)) : Same m m2 b := fun r hr => h r (List.mem_append.2 (.inr hr))

theorem liveL_same {l : List AV} (h : Same m m2 (AV.refsL l)) : liveL m2 l = liveL m l := by
  unfold liveL
  rw [Bool.eq_iff_iff, List.all_eq_true, List.all_eq_true]
  exact ⟨fun a r hr => by rw [← h r hr]; exact a r hr, fun a r hr => by rw [h r hr]; exact a r hr⟩

theorem boxIt_local {nb e cs d} (h : (boxIt P m nb e cs).get = some d) (hs : Same m m2 d.rd) : (boxIt P m2 nb e cs).get = some d := by
  unfold boxIt at h ⊢
  split at h
  · rename_i l m' hl
    split at h
    · rename_i hc
      obtain ⟨_, rfl⟩ := get_val h
      rw [liveL_same hs, if_pos hc]
      rfl
    · cases h
  · cases h

theorem fillP_local {ev t} : ∀ {parts : List (Nat × Operand)} {cs cs' : List AV}, fillP P m ev t cs parts = some cs' → Same m m2 (refsP P ev t parts) → fillP P m2 ev t cs parts = some cs'
  | [], cs, cs', h, _ => h
  | (i, x) :: r, cs, cs', h, hs => by
    simp only [fillP] at h ⊢
    split at h
    · rename_i off sz ft hp
      simp only [refsP, hp] at hs
      split at h
      · rename_i v hv
        simp only [hv] at hs
        split at h
        · rename_i hc
          rw [liveL_same hs.left, if_pos hc]
          exact fillP_local h hs.right
        · cases h
      · cases h
    · cases h

theorem opBuild_local {t ev parts d} (h : (opBuild P m t ev parts).get = some d) (hs : Same m m2 d.rd) : (opBuild P m2 t ev parts).get = some d := by
  unfold opBuild at h ⊢
  split at h
  · rename_i z hz
    split at h
    · rename_i hc
      split at h
      · rename_i cs hcs
        obtain ⟨_, rfl⟩ := get_val h
        simp only at hs
        rw [liveL_same hs.left, if_pos hc, fillP_local hcs hs.right]
        rfl
      · cases h
    · cases h
  · cases h

theorem opBuildSlice_local {t len nb ev parts d} (h : (opBuildSlice P m t len nb ev parts).get = some d) (hs : Same m m2 d.rd) : (opBuildSlice P m2 t len nb ev parts).get = some d := by
  unfold opBuildSlice at h ⊢
  split at h
  · rename_i e he
    split at h
    · rename_i z hz
      split at h
      · rename_i hc
        split at h
        · rename_i cs hcs
          split at h
          · rename_i l m' hl
            obtain ⟨_, rfl⟩ := get_val h
            simp only at hs
            have hz0 := zero_refs hz
            rw [liveL_same (m := m) (l := z.cells) (by rw [hz0]; intro r hr; cases hr), if_pos hc, fillP_local hcs hs]
            simp only [hl]
            rfl
          · cases h
        · cases h
      · cases h
    · cases h
  · cases h

theorem loadOut_rd {t rd cs d} (h : (loadOut P t rd cs).get = some d) : d.rd = rd := by
  unfold loadOut at h
  split at h
  · split at h
    · obtain ⟨_, rfl⟩ := get_val h; rfl
    · split at h
      · obtain ⟨_, rfl⟩ := get_val h; rfl
      · cases h
  · cases h

theorem opLoad_local {t x d} (h : (opLoad P m t x).get = some d) (hs : Same m m2 d.rd) : (opLoad P m2 t x).get = some d := by
  unfold opLoad at h ⊢
  split at h
  · rename_i r i sz j
    split at h
    · rename_i row hl
      split at h
      · rename_i hc
        rw [loadOut_rd h] at hs
        rw [hs r (by split <;> simp), hl]
        simp only
        rw [if_pos hc]
        exact h
      · cases h
    · cases h
  · exact h
  · cases h

theorem opStore_local {t nb a v d} (h : (opStore P m t nb a v).get = some d) (hs : Same m m2 d.rd) : (opStore P m2 t nb a v).get = some d := by
  unfold opStore at h ⊢
  split at h
  · rename_i cs m' hm
    split at h
    · rename_i hc
      split at h
      · rename_i r i sz j
        split at h
        · rename_i row hl
          split at h
          · rename_i hsz
            split at h
            · rename_i row' hst
              obtain ⟨_, rfl⟩ := get_val h
              simp only at hs
              have h1 : Same m m2 (AV.refsL v.cells) := fun r hr => hs r (List.mem_cons_of_mem _ hr)
              rw [liveL_same h1, if_pos hc, hs r (by simp), hl]
              simp only
              rw [if_pos hsz, hst]
              rfl
            · cases h
          · cases h
        · cases h
      · cases h
    · cases h
  · cases h

theorem opNilCheck_local {x d} (h : (opNilCheck m x).get = some d) (hs : Same m m2 d.rd) : (opNilCheck m2 x).get = some d := by
  unfold opNilCheck at h ⊢
  split at h
  · split at h
    · rename_i row hl
      obtain ⟨_, rfl⟩ := get_val h
      rw [hs _ (by simp), hl]; rfl
    · cases h
  · exact h
  · cases h

theorem opFieldAddr_local {t x f d} (h : (opFieldAddr P m t x f).get = some d) (hs : Same m m2 d.rd) : (opFieldAddr P m2 t x f).get = some d := by
  unfold opFieldAddr at h ⊢
  split at h
  · rename_i fs hu
    split at h
    · rename_i fd hf
      split at h
      · cases h
      · rename_i hz
        simp only [hf, if_neg hz]
        split at h
        · split at h
          · rename_i row hl
            obtain ⟨_, rfl⟩ := get_val h
            rw [hs _ (by simp), hl]; rfl
          · cases h
        · exact h
        · cases h
    · cases h
  · cases h

theorem opPtr_local {op xt x y d} (h : (opPtr P m op xt x y).get = some d) (hs : Same m m2 d.rd) : (opPtr P m2 op xt x y).get = some d := by
  unfold opPtr at h ⊢
  split at h
  · split at h
    · split at h
      · rename_i row hl
        obtain ⟨_, rfl⟩ := get_val h
        rw [hs _ (by simp), hl]; rfl
      · cases h
    · split at h
      · rename_i row hl
        obtain ⟨_, rfl⟩ := get_val h
        rw [hs _ (by simp), hl]; rfl
      · cases h
    · exact h
    · exact h
    · exact h
    · split at h
      · rename_i row hl
        split at h
        · rename_i hc
          obtain ⟨_, rfl⟩ := get_val h
          rw [hs _ (by simp), hl]
          simp only
          rw [if_pos hc]; rfl
        · cases h
      · cases h
    · cases h
  · cases h

theorem opMapEq_local {op xt x y d} (h : (opMapEq P m op xt x y).get = some d) (hs : Same m m2 d.rd) : (opMapEq P m2 op xt x y).get = some d := by
  unfold opMapEq at h ⊢
  split at h
  · split at h
    · split at h
      · rename_i e sz k v xs hl
        obtain ⟨_, rfl⟩ := get_val h
        rw [hs _ (by simp), hl]; rfl
      · cases h
    · exact h
    · cases h
  · cases h

theorem opLookup_local {t x i ok d} (h : (opLookup P m t x i ok).get = some d) (hs : Same m m2 d.rd) : (opLookup P m2 t x i ok).get = some d := by
  unfold opLookup at h ⊢
  split at h
  · split at h
    · rename_i e sz k v xs z hl hz
      split at h
      · rename_i key d0 hk hkey hd0
        obtain ⟨_, rfl⟩ := get_val h
        rw [hs _ (by simp), hl, hz]
        simp only [hk, hkey, hd0]
        rfl
      · cases h
    · cases h
  · exact h
  · cases h

theorem opMapUpd_local {t x i y d} (h : (opMapUpd P m t x i y).get = some d) (hs : Same m m2 d.rd) : (opMapUpd P m2 t x i y).get = some d := by
  unfold opMapUpd at h ⊢
  split at h
  · split at h
    · rename_i e sz k v xs hl
      split at h
      · rename_i key d0 hk hkey hd0
        obtain ⟨_, rfl⟩ := get_val h
        rw [hs _ (by simp), hl]
        simp only [hk, hkey, hd0]
        rfl
      · cases h
    · cases h
  · cases h

theorem opDelete_local {t x i d} (h : (opDelete P m t x i).get = some d) (hs : Same m m2 d.rd) : (opDelete P m2 t x i).get = some d := by
  unfold opDelete at h ⊢
  split at h
  · split at h
    · rename_i e sz k v xs hl
      split at h
      · rename_i key hk hkey
        obtain ⟨_, rfl⟩ := get_val h
        rw [hs _ (by simp), hl]
        simp only [hk, hkey]
        rfl
      · cases h
    · cases h
  · cases h

theorem opClear_local {t x d} (h : (opClear P m t x).get = some d) (hs : Same m m2 d.rd) : (opClear P m2 t x).get = some d := by
  unfold opClear at h ⊢
  split at h
  · rename_i e r sz off len he
    cases hl : look m r with
    | none => rw [hl] at h; split at h <;> simp_all [OR.get]
    | some row =>
      have key : r ∈ d.rd := by
        rw [hl] at h
        split at h
        · split at h
          · split at h
            · obtain ⟨_, rfl⟩ := get_val h; simp
            · cases h
          · cases h
        · cases h
      rw [hs r key]
      exact h
  · cases h

theorem opMClone_local {nb l d} (h : (opMClone m nb l).get = some d) (hs : Same m m2 d.rd) : (opMClone m2 nb l).get = some d := by
  unfold opMClone at h ⊢
  split at h
  · split at h
    · rename_i e sz k v xs hl
      obtain ⟨_, rfl⟩ := get_val h
      rw [hs _ (by simp), hl]; rfl
    · cases h
  · cases h

theorem bin2_local {op xt x y d} (h : (bin2 P m op xt x y).get = some d) (hs : Same m m2 d.rd) : (bin2 P m2 op xt x y).get = some d := by
  unfold bin2 at h ⊢
  cases hc : isPtrV x && isPtrV y with
  | true => rw [hc] at h; exact opPtr_local h hs
  | false =>
    rw [hc] at h
    simp only [cond_false] at h ⊢
    cases hc2 : isIfaceV x && isIfaceV y with
    | true => rw [hc2] at h; exact h
    | false =>
    rw [hc2] at h
    simp only [cond_false] at h ⊢
    cases hc3 : isMapV x && isMapV y with
    | true => rw [hc3] at h; exact opMapEq_local h hs
    | false => rw [hc3] at h; exact h

theorem opConvP_local {s t x d} (h : (opConvP P m s t x).get = some d) (hs : Same m m2 d.rd) : (opConvP P m2 s t x).get = some d := by
  unfold opConvP at h ⊢
  split at h
  · split at h
    · rename_i row hl
      split at h
      · rename_i hsz
        split at h
        · split at h
          · rename_i hc
            obtain ⟨_, rfl⟩ := get_val h
            rw [hs _ (by simp), hl]
            simp only
            rw [if_pos hsz, if_pos hc]; rfl
          · cases h
        · split at h
          · rename_i hc
            obtain ⟨_, rfl⟩ := get_val h
            rw [hs _ (by simp), hl]
            simp only
            rw [if_pos hsz, if_pos hc]; rfl
          · cases h
        · cases h
      · cases h
    · cases h
  · cases h

theorem opSliceData_local {ty x d} (h : (opSliceData P m ty x).get = some d) (hs : Same m m2 d.rd) : (opSliceData P m2 ty x).get = some d := by
  unfold opSliceData at h ⊢
  split at h
  · split at h
    · rename_i row hl
      split at h
      · rename_i hsz
        obtain ⟨hc, rfl⟩ := get_val h
        rw [hs _ (by simp), hl]
        simp only
        rw [if_pos hsz, hc]; rfl
      · cases h
    · cases h
  · split at h
    · rename_i row hl
      split at h
      · rename_i hsz
        obtain ⟨hc, rfl⟩ := get_val h
        rw [hs _ (by simp), hl]
        simp only
        rw [if_pos hsz]; rfl
      · cases h
    · cases h
  · cases h

theorem opUStr_local {pt x n d} (h : (opUStr P m pt x n).get = some d) (hs : Same m m2 d.rd) : (opUStr P m2 pt x n).get = some d := by
  unfold opUStr at h ⊢
  split at h
  · split at h
    · rename_i e xs hl
      split at h
      · rename_i hc
        obtain ⟨hc2, rfl⟩ := get_val h
        rw [hs _ (by simp), hl]
        simp only
        rw [if_pos hc, hc2]; rfl
      · cases h
    · cases h
  · cases h

theorem elems_local {t : Ty} {x : AV} {ys rd} (h : elems m t x = some (ys, rd)) (hs : Same m m2 rd) : elems m2 t x = some (ys, rd) := by
  unfold elems at h ⊢
  split at h
  · split at h
    · rename_i r sz _ _ _ t' xs hl
      split at h
      · rename_i ht
        simp only [Option.some.injEq, Prod.mk.injEq] at h
        obtain ⟨rfl, rfl⟩ := h
        rw [hs _ (by simp), hl]
        simp only
        rw [dif_pos ht]
      · cases h
    · cases h
  · split at h
    · rename_i r sz off len _ _ sz' t' xs hl
      split at h
      · rename_i ht
        split at h
        · rename_i hsz
          simp only [Option.some.injEq, Prod.mk.injEq] at h
          obtain ⟨rfl, rfl⟩ := h
          rw [hs _ (by simp), hl]
          simp only
          rw [dif_pos ht, if_pos hsz]
        · cases h
      · cases h
    · cases h
  · exact h
  · exact h
  · cases h

theorem elemsX_local {t : Ty} {x : AV} {ys rd} (h : elemsX m t x = some (ys, rd)) (hs : Same m m2 rd) : elemsX m2 t x = some (ys, rd) := by
  unfold elemsX at h ⊢
  split at h
  · exact h
  · exact elems_local h hs

theorem opConv_local {s t nb x d} (h : (opConv P m s t nb x).get = some d) (hs : Same m m2 d.rd) : (opConv P m2 s t nb x).get = some d := by
  unfold opConv at h ⊢
  split at h
  · exact h
  · exact h
  · exact h
  · split at h
    · split at h
      · rename_i l rd hel
        obtain ⟨_, rfl⟩ := get_val h
        simp only [elems_local hel hs]
        rfl
      · cases h
    · cases h
  · cases h

theorem opLen_local {t x d} (h : (opLen P m t x).get = some d) (hs : Same m m2 d.rd) : (opLen P m2 t x).get = some d := by
  unfold opLen at h ⊢
  split at h
  · exact h
  · split at h
    · rename_i row hl
      obtain ⟨_, rfl⟩ := get_val h
      rw [hs _ (by simp), hl]; rfl
    · cases h
  · split at h
    · rename_i row hl
      obtain ⟨_, rfl⟩ := get_val h
      rw [hs _ (by simp), hl]; rfl
    · cases h
  · split at h
    · rename_i row hl
      obtain ⟨_, rfl⟩ := get_val h
      rw [hs _ (by simp), hl]; rfl
    · cases h
  · exact h
  · split at h
    · rename_i row hl
      obtain ⟨_, rfl⟩ := get_val h
      rw [hs _ (by simp), hl]; rfl
    · cases h
  · exact h
  · cases h

theorem opIndexAddr_local {t x i d} (h : (opIndexAddr P m t x i).get = some d) (hs : Same m m2 d.rd) : (opIndexAddr P m2 t x i).get = some d := by
  unfold opIndexAddr at h ⊢
  split at h
  · split at h
    · split at h
      · rename_i row hl
        split at h
        · rename_i hc
          obtain ⟨hcc, rfl⟩ := get_val h
          rw [hs _ (by simp), hl]
          simp only
          rw [if_pos hc]; exact h
        · cases h
      · cases h
    · split at h
      · rename_i row hl
        split at h
        · rename_i hc
          obtain ⟨hcc, rfl⟩ := get_val h
          rw [hs _ (by simp), hl]
          simp only
          rw [if_pos hc]; exact h
        · cases h
      · cases h
    · exact h
    · cases h
  · cases h

theorem opSlice_local {t x lo hi mx d} (h : (opSlice P m t x lo hi mx).get = some d) (hs : Same m m2 d.rd) : (opSlice P m2 t x lo hi mx).get = some d := by
  have key : ∀ (r : Nat) (X : Row → OR), (∀ row d, (X row).get = some d → r ∈ d.rd) → (match look m r with | some row => X row | none => OR.fail).get = some d → (match look m2 r with | some row => X row | none => OR.fail).get = some d := by
    intro r X hX hh
    cases hl : look m r with
    | none => rw [hl] at hh; cases hh
    | some row =>
      rw [hl] at hh
      rw [hs r (hX row d hh), hl]
      exact hh
  unfold opSlice at h ⊢
  split at h
  · exact h
  · rename_i x td x1 mx1 e hu
    cases x <;> (try simp only at h ⊢) <;> try exact h
    case own r sz =>
      refine key r _ (fun row d hd => ?_) h
      split at hd
      · split at hd <;> first | (obtain ⟨_, rfl⟩ := get_val hd; simp; done) | cases hd
      · cases hd
    case sl r sz off len =>
      refine key r _ (fun row d hd => ?_) h
      split at hd
      · split at hd <;> first | (obtain ⟨_, rfl⟩ := get_val hd; simp; done) | cases hd
      · cases hd
  · rename_i x td x1 mx1 e k hu
    split at h
    · split at h
      · cases h
      · rename_i hi
        simp only [if_neg hi]
        cases x <;> (try simp only at h ⊢) <;> try exact h
        case own r sz =>
        refine key r (fun _ => OR.val true ⟨.nils e, [], [r]⟩) (fun row d hd => ?_) h
        obtain ⟨_, rfl⟩ := get_val hd; simp
    · cases h
  · cases h

theorem opIndexArr_local {n e x i d} (h : (opIndexArr P m n e x i).get = some d) (hs : Same m m2 d.rd) : (opIndexArr P m2 n e x i).get = some d := by
  unfold opIndexArr at h ⊢
  split at h
  · split at h
    · rename_i hz
      simp only [if_pos hz]
      split at h
      · split at h
        · rename_i row hl
          obtain ⟨_, rfl⟩ := get_val h
          simp only [hs _ (List.mem_singleton.2 rfl), hl]; exact h
        · cases h
      · exact h
      · cases h
    · cases h
  · cases h

theorem opIA_local {t g x i d} (h : (opIA P m t g x i).get = some d) (hs : Same m m2 d.rd) : (opIA P m2 t g x i).get = some d := by
  unfold opIA at h ⊢
  split at h
  · exact h
  · split at h
    · exact opIndexArr_local h hs
    · exact opIndexAddr_local h hs
  · cases h

theorem opSliceX_local {t x lo hi mx d} (h : (opSliceX P m t x lo hi mx).get = some d) (hs : Same m m2 d.rd) : (opSliceX P m2 t x lo hi mx).get = some d := by
  unfold opSliceX at h ⊢
  split
  · rename_i hu
    rw [hu] at h
    exact h
  · rename_i hu
    split at h
    · rename_i n e hu2
      exact absurd hu2 (hu n e)
    · exact opSlice_local h hs

theorem opAppend_local {st xt nb s x d} (h : (opAppend P m st xt nb s x).get = some d) (hs : Same m m2 d.rd) : (opAppend P m2 st xt nb s x).get = some d := by
  unfold opAppend at h ⊢
  split at h
  · rename_i e he
    split at h
    · rename_i t ht
      split at h
      · rename_i hc
        split at h
        · rename_i ys rd hel
          split at h
          · obtain ⟨hcc, rfl⟩ := get_val h
            simp only [if_pos hc, elemsX_local hel hs]
            exact h
          · rename_i r sz
            split at h
            · rename_i e' sz' t' xs hl
              split at h
              · rename_i htt
                split at h
                · rename_i hcc
                  obtain ⟨hv, rfl⟩ := get_val h
                  simp only at hs
                  simp only [if_pos hc, elemsX_local hel (fun q hq => hs q (List.mem_cons_of_mem _ hq)), hs r (by simp), hl]
                  rw [dif_pos htt, if_pos hcc]
                  exact h
                · cases h
              · cases h
            · cases h
          · cases h
        · cases h
      · cases h
    · cases h
  · cases h

theorem opAppend_val {m : Rows} {st xt nb s x d} (h : (opAppend P m st xt nb s x).get = some d) : opAppend P m st xt nb s x = .val true d := by
  revert h
  unfold opAppend
  repeat' split
  all_goals intro h
  all_goals first
    | (cases h; done)
    | (obtain ⟨hc, rfl⟩ := get_val h; rw [hc])

theorem opApp_local {st xt nb s x d} (h : (opApp P m st xt nb s x).get = some d) (hs : Same m m2 d.rd) : (opApp P m2 st xt nb s x).get = some d := by
  unfold opApp at h ⊢
  split at h
  · split at h
    · obtain ⟨d0, q, sz, hg, hv, rfl⟩ := bufOf_get h
      rw [opAppend_val (opAppend_local hg hs)]
      obtain ⟨v, up, rd⟩ := d0
      simp only at hv
      subst hv
      rfl
    · cases h
  · exact opAppend_local h hs

theorem reach_local : ∀ (n : Nat) (q seen l : List Nat), reach m n q seen = some l → Same m m2 l → reach m2 n q seen = some l ∧ ∀ r ∈ seen, r ∈ l
  | 0, q, seen, l, h, _ => by cases q <;> simp [reach] at h
  | n + 1, [], seen, l, h, _ => by simp only [reach, Option.some.injEq] at h ⊢; subst h; exact ⟨rfl, fun _ h => h⟩
  | n + 1, r :: q, seen, l, h, hs => by
    simp only [reach] at h ⊢
    split at h
    · rename_i hc
      rw [if_pos hc]
      exact reach_local n q seen l h hs
    · rename_i hc
      rw [if_neg hc]
      split at h
      · rename_i row hl
        obtain ⟨h1, h2⟩ := reach_local n _ _ l h hs
        rw [hs r (h2 r (by simp)), hl]
        exact ⟨h1, fun x hx => h2 x (by simp [hx])⟩
      · cases h

theorem lentL_local {f f2 : AV → Option (AV × List Nat)} (hf : ∀ x y rd, f x = some (y, rd) → Same m m2 rd → f2 x = some (y, rd)) : ∀ (l l' : List AV) (rd : List Nat), lentL f l = some (l', rd) → Same m m2 rd → lentL f2 l = some (l', rd)
  | [], l', rd, h, _ => h
  | x :: l, l', rd, h, hs => by
    simp only [lentL] at h ⊢
    split at h
    · rename_i y a l1 b hx hl
      simp only [Option.some.injEq, Prod.mk.injEq] at h
      obtain ⟨rfl, rfl⟩ := h
      rw [hf _ _ _ hx hs.left, lentL_local hf l l1 b hl hs.right]
    · cases h

theorem lent_local : ∀ (n : Nat) (x y : AV) (rd : List Nat), AV.lent P m n x = some (y, rd) → Same m m2 rd → AV.lent P m2 n x = some (y, rd)
  | 0, x, y, rd, h, _ => by simp [AV.lent] at h
  | n + 1, x, y, rd, h, hs => by
    have ih := lentL_local (m := m) (m2 := m2) (f := AV.lent P m n) (f2 := AV.lent P m2 n) (fun x y rd h hs => lent_local n x y rd h hs)
    cases x <;> simp only [AV.lent] at h ⊢ <;> try exact h
    case agg l =>
      split at h
      · rename_i l' rd' hl
        simp only [Option.some.injEq, Prod.mk.injEq] at h
        obtain ⟨rfl, rfl⟩ := h
        rw [ih _ _ _ hl hs]
      · cases h
    case tup l =>
      split at h
      · rename_i l' rd' hl
        simp only [Option.some.injEq, Prod.mk.injEq] at h
        obtain ⟨rfl, rfl⟩ := h
        rw [ih _ _ _ hl hs]
      · cases h
    case fn f l =>
      split at h
      · rename_i l' rd' hl
        simp only [Option.some.injEq, Prod.mk.injEq] at h
        obtain ⟨rfl, rfl⟩ := h
        rw [ih _ _ _ hl hs]
      · cases h
    case own r sz =>
      split at h
      · rename_i e sz' t xs hl
        simp only [Option.some.injEq, Prod.mk.injEq] at h
        obtain ⟨rfl, rfl⟩ := h
        rw [hs r (by simp), hl]
      · cases h
    case sl r sz off len =>
      split at h
      · rename_i e sz' t xs hl
        split at h
        · rename_i hc
          simp only [Option.some.injEq, Prod.mk.injEq] at h
          obtain ⟨rfl, rfl⟩ := h
          rw [hs r (by simp), hl]
          simp only
          rw [if_pos hc]
        · cases h
      · cases h
    case ptr r i sz j =>
      split at h
      · rename_i row hl
        split at h
        · rename_i hc
          split at h
          · rename_i l' rd' hll
            simp only [Option.some.injEq, Prod.mk.injEq] at h
            obtain ⟨rfl, rfl⟩ := h
            rw [hs r (by simp), hl]
            simp only
            rw [if_pos hc, ih _ _ _ hll (fun q hq => hs q (List.mem_cons_of_mem _ hq))]
          · cases h
        · cases h
      · cases h

theorem lendArgs_local : ∀ (bs : List Bool) (avs as1 : List AV) (hs bn : List Nat), lendArgs P m bs avs = some (as1, hs, bn) → Same m m2 bn → lendArgs P m2 bs avs = some (as1, hs, bn)
  | bs, [], as1, hs, bn, h, _ => by cases bs <;> exact h
  | b :: bs, x :: l, as1, hs, bn, h, hsm => by
    simp only [lendArgs] at h ⊢
    split at h
    · rename_i l' hs' rd hl
      split at h
      · rename_i hb
        simp only [Option.some.injEq, Prod.mk.injEq] at h
        obtain ⟨rfl, rfl, rfl⟩ := h
        rw [lendArgs_local bs l _ _ _ hl hsm]
        simp only
        rw [if_pos hb]
      · rename_i hb
        split at h
        · rename_i y a hy
          simp only [Option.some.injEq, Prod.mk.injEq] at h
          obtain ⟨rfl, rfl, rfl⟩ := h
          rw [lendArgs_local bs l _ _ _ hl hsm.right]
          simp only
          rw [if_neg hb, lent_local _ _ _ _ hy hsm.left]
        · cases h
    · cases h
  | [], x :: l, as1, hs, bn, h, hsm => by
    simp only [lendArgs] at h ⊢
    split at h
    · rename_i l' hs' rd hl
      split at h
      · rename_i y a hy
        simp only [Option.some.injEq, Prod.mk.injEq] at h
        obtain ⟨rfl, rfl, rfl⟩ := h
        rw [lendArgs_local [] l _ _ _ hl hsm.right]
        simp only
        rw [lent_local _ _ _ _ hy hsm.left]
      · cases h
    · cases h

theorem rowsAt_local {f : Nat → Option Nat} : ∀ (l : List Nat) (i : Nat), Same m m2 l → rowsAt m2 f i l = rowsAt m f i l
  | [], _, _ => rfl
  | r :: l, i, hs => by
    have ih := rowsAt_local (f := f) l (i + 1) (fun q hq => hs q (List.mem_cons_of_mem _ hq))
    simp only [rowsAt, hs r (by simp), ih]

theorem reachO_local {hs l : List Nat} (h : reachO m hs = some l) (hsm : Same m m2 l) : reachO m2 hs = some l := by
  unfold reachO at h ⊢
  split at h
  · rename_i l0 hl
    cases h
    have hs0 : Same m m2 l0 := fun r hr => hsm r (orderR_mem.2 hr)
    rw [(reach_local _ _ _ _ hl hs0).1]
    simp only [Option.some.injEq]
    have hc : ∀ r ∈ l0, kindR m2 hs r = kindR m hs r := fun r hr => by unfold kindR; rw [hs0 r hr]
    have e : ∀ i, l0.filter (fun r => Nat.beq (kindR m2 hs r) i) = l0.filter (fun r => Nat.beq (kindR m hs r) i) := fun i => List.filter_congr (fun r hr => by rw [hc r hr])
    unfold orderR
    rw [e, e, e]
  · cases h

theorem keptQ_local {names : List Nat} (mk : Nat) (kp : List Nat) (hs : ∀ r ∈ names, look m2 r = look m r) : keptQ m2 names mk kp = keptQ m names mk kp := by
  unfold keptQ
  refine List.filter_congr (fun q hq => ?_)
  cases hn : names[q]? with
  | none => rfl
  | some r => simp only [hs r (List.mem_of_getElem? hn)]

theorem opCall_same {cx : Cx} {nb f avs pn d} (h : (opCall cx m nb f avs).gete = some (pn, d)) (hs : Same m m2 d.rd) : opCall cx m2 nb f avs = opCall cx m nb f avs := by
  unfold opCall at h ⊢
  split at h
  · rename_i as1 hs' bn hlend
    split at h
    · rename_i names hreach
      split at h
      · rename_i hdisj
        split at h
        · rename_i cr hD
          obtain ⟨mk, kp0, Y, o, g, gg, gh⟩ := cr
          simp only [callO, OR.gete] at h
          cases ho : o with
          | none => rw [ho] at h; cases h
          | some y =>
            rw [ho] at h
            simp only [Option.bind_some] at h
            have hrd : d.rd = names ++ bn := by
              unfold callD at h
              split at h <;> (simp only [Option.some.injEq, Prod.mk.injEq] at h; rw [← h.2])
            rw [hrd] at hs
            rw [lendArgs_local _ _ _ _ _ hlend hs.right]
            simp only
            rw [reachO_local hreach hs.left]
            simp only
            rw [if_pos hdisj, rowsAt_local _ _ hs.left, hD]
            simp only
            rw [keptQ_local mk kp0 hs.left]
            subst ho
            first | rfl | (rw [if_pos hdisj]) | (simp only [hdisj, if_true])
        · cases h
      · cases h
    · cases h
  · cases h

theorem opCall_local {cx : Cx} {nb f avs d} (h : (opCall cx m nb f avs).get = some d) (hs : Same m m2 d.rd) : (opCall cx m2 nb f avs).get = some d := by
  rw [opCall_same (OR.gete_get h) hs]; exact h

theorem opYield_local {cx : Cx} {nb r avs d} (h : (opYield cx m nb r avs).get = some d) (hs : Same m m2 d.rd) : (opYield cx m2 nb r avs).get = some d := by
  have h0 := h
  unfold opYield at h
  split at h
  · rename_i e sz f st l hl
    cases hb : fnB f with
    | true => rw [hb] at h; cases h
    | false =>
    rw [hb] at h
    simp only [cond_false] at h
    split at h
    · rename_i Y o g gg gh ho
      simp only [OR.get] at h
      cases o with
      | none => cases h
      | some y =>
        simp only [Option.bind_some] at h
        cases hg : g y with
        | none => rw [hg] at h; cases h
        | some x =>
          obtain ⟨p, d0⟩ := x
          rw [hg] at h
          cases p with
          | true => cases h
          | false =>
            simp only [Option.some.injEq] at h
            subst h
            have hgete : (opCall cx m nb f (avs ++ [.oref .yield r])).gete = some (false, d0) := by rw [ho]; simp only [OR.gete, Option.bind_some, hg]
            have e1 := opCall_same hgete (fun q hq => hs q (List.mem_cons_of_mem _ hq))
            have e2 : opYield cx m2 nb r avs = opYield cx m nb r avs := by
              unfold opYield
              rw [hs r (by simp), hl]
              simp only [hb, cond_false, e1]
            rw [e2]; exact h0
    · cases h
  · cases h

theorem conv2_local {s t nb x d} (h : (conv2 P m s t nb x).get = some d) (hs : Same m m2 d.rd) : (conv2 P m2 s t nb x).get = some d := by
  unfold conv2 at h ⊢
  cases hc : isPtrV x with
  | true => rw [hc] at h; exact opConvP_local h hs
  | false => rw [hc] at h; exact opConv_local h hs
end Go.Proofs.YtfogafinohfpfaaGreatDoorV
