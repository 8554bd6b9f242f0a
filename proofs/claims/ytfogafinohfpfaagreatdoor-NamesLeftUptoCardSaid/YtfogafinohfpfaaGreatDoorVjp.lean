/- Pointers held against each other, told as others; bytes that become a string. -/
import Derived.Test.YtfogafinohfpfaaGreatDoorVj
import Derived.Lib.Builder
import Derived.Lib.UnsafeStr
import Derived.LaidEqlPtr
import Derived.Laws.Externs
namespace Go.Proofs.YtfogafinohfpfaaGreatDoorV
open Go.RowKit
set_option linter.unusedVariables false
set_option linter.unusedSimpArgs false

variable {w : World} {Im : Nat → Prop} {ρ : Nat → Loc} {m : Rows} {P : Program}

theorem ptrT_under {t e : TypeId} (h : ptrT P t = some e) : P.underlying t = some (.pointer e) := by
  unfold ptrT at h
  split at h
  · rename_i e' hu; cases h; exact hu
  · cases h

theorem eq_ptr_nil {t e : TypeId} (h : P.underlying t = some (.pointer e)) (a : Addr) : (Op.equal t (.pointer (some a)) (.pointer none)).run P w = .ok false w := by
  have h : ∀ d : Nat, (Op.equalIn (d + 1) t (.pointer (some a)) (.pointer none)).run P w = .ok false w := fun d => by simp [Op.equalIn, run_underlying h]
  exact h 9999
theorem eq_nil_ptr {t e : TypeId} (h : P.underlying t = some (.pointer e)) (a : Option Addr) : (Op.equal t (.pointer none) (.pointer a)).run P w = .ok a.isNone w := by
  have h : ∀ d : Nat, (Op.equalIn (d + 1) t (.pointer none) (.pointer a)).run P w = .ok a.isNone w := fun d => by simp [Op.equalIn, run_underlying h]
  exact h 9999
theorem eq_ptr_same {t e : TypeId} (h : P.underlying t = some (.pointer e)) (hi : (P.info? e).isSome = true) (a : Addr) : (Op.equal t (.pointer (some a)) (.pointer (some a))).run P w = .ok true w := by
  obtain ⟨i, hi⟩ := Option.isSome_iff_exists.1 hi
  have h : ∀ d : Nat, (Op.equalIn (d + 1) t (.pointer (some a)) (.pointer (some a))).run P w = .ok true w := fun d => by simp [Op.equalIn, run_underlying h, sizeOf, typeInfo, hi, run_sameAddr_same]
  exact h 9999

theorem binOp_ptr {op want t} {a b : Option Addr} (h : isEqOp op = some want) {c : Bool} (hc : (Op.equal t (.pointer a) (.pointer b)).run P w = .ok c w) (x y : Operand) :
    (do eqGuard op t x y (.pointer a) (.pointer b); binOp op t (.pointer a) (.pointer b)).run P w = .ok (.bool (c == want)) w := by
  have hg : (eqGuard op t x y (.pointer a) (.pointer b)).run P w = .ok () w := by
    unfold eqGuard; split <;> rfl
  simp only [Sem.run_bind, hg, Result.andThen_ok]
  unfold isEqOp at h
  split at h
  · cases h
    simp [binOp, hc]
  · cases h
    simp [binOp, hc]
  · cases h

theorem opPtr_ok {op xt x y a b d} (h : (opPtr P m op xt x y).get = some d) (hr : RS w Im ρ m) (hx : VR w Im ρ x a) (hy : VR w Im ρ y b) (ox oy : Operand) :
    Quiet w Im ρ P d (do eqGuard op xt ox oy a b; binOp op xt a b) := by
  unfold opPtr at h
  split at h
  · rename_i want e hop hpt
    have hu := ptrT_under hpt
    split at h
    · split at h
      · rename_i row hl
        obtain ⟨_, rfl⟩ := get_val h
        obtain ⟨g, n, cap, hg, rfl, hi⟩ := ptr_at hr hl hx
        obtain rfl := hy
        exact ⟨rfl, _, binOp_ptr hop (eq_ptr_nil hu _) ox oy, by cases want <;> rfl⟩
      · cases h
    · split at h
      · rename_i row hl
        obtain ⟨_, rfl⟩ := get_val h
        obtain ⟨g, n, cap, hg, rfl, hi⟩ := ptr_at hr hl hy
        obtain rfl := hx
        exact ⟨rfl, _, binOp_ptr hop (eq_nil_ptr hu _) ox oy, by cases want <;> rfl⟩
      · cases h
    · obtain rfl := get_pure h
      obtain rfl := hx; obtain rfl := hy
      exact ⟨rfl, _, binOp_ptr hop (eq_nil_ptr hu _) ox oy, by cases want <;> rfl⟩
    · obtain rfl := get_pure h
      obtain ⟨ad, us, rfl, _⟩ := hx
      obtain rfl := hy
      exact ⟨rfl, _, binOp_ptr hop (eq_ptr_nil hu _) ox oy, by cases want <;> rfl⟩
    · obtain rfl := get_pure h
      obtain ⟨ad, us, rfl, _⟩ := hy
      obtain rfl := hx
      exact ⟨rfl, _, binOp_ptr hop (eq_nil_ptr hu _) ox oy, by cases want <;> rfl⟩
    · split at h
      · rename_i row hl
        split at h
        · rename_i hc
          obtain ⟨rfl, rfl, rfl, rfl, hi⟩ := hc
          obtain ⟨_, rfl⟩ := get_val h
          obtain ⟨g, n, cap, hg, rfl, hi1⟩ := ptr_at hr hl hx
          obtain ⟨g', n', cap', hg', rfl, hi2⟩ := ptr_at hr hl hy
          rw [hg] at hg'; cases hg'
          exact ⟨rfl, _, binOp_ptr hop (eq_ptr_same hu hi _) ox oy, by cases want <;> rfl⟩
        · cases h
      · cases h
    · cases h
  · cases h

theorem ifEqIn_run {t : TypeId} {ms} (hu : P.underlying t = some (.interface ms)) (ty : TypeId) (v : Value) (d : Nat) : (Op.equalIn (d + 1) t (.iface ty v) .nilIface).run P w = .ok false w ∧ (Op.equalIn (d + 1) t .nilIface (.iface ty v)).run P w = .ok false w ∧ (Op.equalIn (d + 1) t .nilIface .nilIface).run P w = .ok true w := by
  simp [Op.equalIn, Sem.run_bind, run_underlying hu, Result.andThen_ok]

theorem ifEq_run {t : TypeId} {ms} (hu : P.underlying t = some (.interface ms)) (ty : TypeId) (v : Value) : (Op.equal t (.iface ty v) .nilIface).run P w = .ok false w ∧ (Op.equal t .nilIface (.iface ty v)).run P w = .ok false w ∧ (Op.equal t .nilIface .nilIface).run P w = .ok true w :=
  ifEqIn_run hu ty v 9999

theorem opIfaceEq_ok {op xt x y a b d} (h : (opIfaceEq P op xt x y).get = some d) (hx : VR w Im ρ x a) (hy : VR w Im ρ y b) (ox oy : Operand) :
    Quiet w Im ρ P d (do eqGuard op xt ox oy a b; binOp op xt a b) := by
  unfold opIfaceEq at h
  split at h
  · rename_i want ms hop hu
    split at h
    · rename_i t u
      obtain rfl := get_pure h
      obtain ⟨v, rfl, _⟩ := hx
      obtain rfl := hy
      refine ⟨rfl, .bool (!want), ?_, rfl⟩
      have := (ifEq_run (w := w) hu t v).1
      unfold isEqOp at hop
      split at hop <;> cases hop <;> simp [eqGuard, binOp, Sem.run_bind, this, Result.andThen_ok]
    · rename_i t u
      obtain rfl := get_pure h
      obtain ⟨v, rfl, _⟩ := hy
      obtain rfl := hx
      refine ⟨rfl, .bool (!want), ?_, rfl⟩
      have := (ifEq_run (w := w) hu t v).2.1
      unfold isEqOp at hop
      split at hop <;> cases hop <;> simp [eqGuard, binOp, Sem.run_bind, this, Result.andThen_ok]
    · cases h
  · cases h

theorem isNilC_eq {x : Operand} (h : isNilC x = true) : x = .const .nilIface := by
  unfold isNilC at h
  split at h
  · rfl
  · cases h

theorem opNilEq_ok {op xt d} {ox oy : Operand} (hc : (isNilC ox || isNilC oy) = true) (h : (opNilEq P op xt).get = some d) :
    Quiet w Im ρ P d (do eqGuard op xt ox oy .nilIface .nilIface; binOp op xt .nilIface .nilIface) := by
  unfold opNilEq at h
  split at h
  · rename_i want ms hop hu
    obtain rfl := get_pure h
    refine ⟨rfl, .bool want, ?_, rfl⟩
    have := (ifEq_run (w := w) hu 0 undef).2.2
    have hg : (eqGuard op xt ox oy .nilIface .nilIface).run P w = .ok () w := by
      simp only [Bool.or_eq_true] at hc
      rcases hc with hc | hc
      · obtain rfl := isNilC_eq hc
        unfold isEqOp at hop
        split at hop <;> cases hop <;> simp [eqGuard]
      · obtain rfl := isNilC_eq hc
        unfold isEqOp at hop
        split at hop <;> cases hop <;> simp [eqGuard]
    simp only [Sem.run_bind, hg, Result.andThen_ok]
    unfold isEqOp at hop
    split at hop <;> cases hop <;> simp [binOp, Sem.run_bind, this, Result.andThen_ok]
  · cases h

theorem opIface_ok {xt x a d} (h : (opIface P xt x).get = some d) (hx : VR w Im ρ x a) : Quiet w Im ρ P d (Instr.makeInterface xt a) := by
  unfold opIface at h
  split at h
  · cases h
  · rename_i ds hne hu
    obtain rfl := get_pure h
    refine ⟨rfl, .iface xt a, ?_, ⟨a, rfl, hx⟩⟩
    simp only [Instr.makeInterface, Sem.run_bind, run_underlying hu, Result.andThen_ok]
    rfl
  · cases h

theorem opAssert_ok {x a d} {xt t : TypeId} {ok : Bool} (h : (opAssert P x t ok).get = some d) (hx : VR w Im ρ x a) : Quiet w Im ρ P d (Instr.typeAssert a xt t ok) := by
  unfold opAssert at h
  split at h
  · cases h
  · rename_i ds t' v hne hu
    split at h
    · rename_i e
      subst e
      obtain rfl := get_pure h
      obtain ⟨u, rfl, hv⟩ := hx
      refine ⟨rfl, (if ok then .tuple #[u, .bool true] else u), ?_, ?_⟩
      · simp only [Instr.typeAssert, Sem.run_bind, run_underlying hu, Result.andThen_ok]
        cases ok <;> simp
      · cases ok
        · exact hv
        · exact ⟨_, rfl, VRs_cons.2 ⟨_, _, rfl, hv, VRs_cons.2 ⟨_, _, rfl, rfl, VRs_nil.2 rfl⟩⟩⟩
    · cases h
  · cases h

theorem opMapEq_ok {op xt x y a b d} (h : (opMapEq P m op xt x y).get = some d) (hr : RS w Im ρ m) (hx : VR w Im ρ x a) (hy : VR w Im ρ y b) (ox oy : Operand) :
    Quiet w Im ρ P d (do eqGuard op xt ox oy a b; binOp op xt a b) := by
  unfold opMapEq at h
  split at h
  · rename_i want k v hw hu
    have eqn : ∀ (p q : Option Nat) (c : Bool), (Op.equal xt (.map p) (.map q)).run P w = .ok c w → (do eqGuard op xt ox oy (.map p) (.map q); binOp op xt (.map p) (.map q) : Sem Value).run P w = .ok (.bool (if want then c else !c)) w := by
      intro p q c hc
      unfold isEqOp at hw
      split at hw
      · cases hw
        simp [eqGuard, binOp, Sem.run_bind, hc, Result.andThen]
      · cases hw
        simp [eqGuard, binOp, Sem.run_bind, hc, Result.andThen]
      · cases hw
    have e1 : ∀ g, (Op.equal xt (.map (some g)) (.map none)).run P w = .ok false w := by
      intro g
      have h : ∀ d : Nat, (Op.equalIn (d + 1) xt (.map (some g)) (.map none)).run P w = .ok false w := fun d => by simp [Op.equalIn, run_underlying hu]
      exact h 9999
    have e2 : (Op.equal xt (.map none) (.map none)).run P w = .ok true w := by
      have h : ∀ d : Nat, (Op.equalIn (d + 1) xt (.map none) (.map none)).run P w = .ok true w := fun d => by simp [Op.equalIn, run_underlying hu]
      exact h 9999
    split at h
    · rename_i r
      split at h
      · rename_i e sz k v xs hl
        obtain ⟨_, rfl⟩ := get_val h
        obtain ⟨g, cap, es, clock, hρ, rfl, hg, hbo, hm, h0⟩ := map_at hr hl hx
        simp only [VR] at hy
        subst hy
        refine ⟨rfl, _, eqn _ _ _ (e1 g), ?_⟩
        cases want <;> rfl
      · cases h
    · obtain rfl := get_pure h
      simp only [VR] at hx hy
      subst hx; subst hy
      refine ⟨rfl, _, eqn _ _ _ e2, ?_⟩
      cases want <;> rfl
    · cases h
  · cases h

theorem bin2_ok {op xt x y a b d} (h : (bin2 P m op xt x y).get = some d) (hr : RS w Im ρ m) (hx : VR w Im ρ x a) (hy : VR w Im ρ y b) (ox oy : Operand) :
    Quiet w Im ρ P d (do eqGuard op xt ox oy a b; binOp op xt a b) := by
  unfold bin2 at h
  cases hc : isPtrV x && isPtrV y with
  | true => rw [hc] at h; exact opPtr_ok h hr hx hy ox oy
  | false =>
    rw [hc] at h
    simp only [cond_false] at h
    cases hc2 : isIfaceV x && isIfaceV y with
    | true => rw [hc2] at h; exact opIfaceEq_ok h hx hy ox oy
    | false =>
    rw [hc2] at h
    simp only [cond_false] at h
    cases hc3 : isMapV x && isMapV y with
    | true => rw [hc3] at h; exact opMapEq_ok h hr hx hy ox oy
    | false =>
    rw [hc3] at h
    simp only [cond_false] at h
    have hg := guard_ok h hx hy ox oy
    obtain ⟨h1, v', h2, h3⟩ := bin_ok h hx hy
    exact ⟨h1, v', by simp only [Sem.run_bind, hg, Result.andThen_ok, h2], h3⟩

/-! ### Pointers told as others -/
theorem row_shape {r : Nat} {row : Row} {g n cap : Nat} (hr : RS w Im ρ m) (hl : look m r = some row) (hg : ρ r = .blk g n cap) (h0 : 0 < n) : w.shape? g = some (row.e, cap * row.sz) ∧ n ≤ cap := by
  obtain ⟨_, _, h⟩ := hr.row _ _ hl
  rw [hg] at h
  obtain ⟨cur, fr, hh, _, _, hn, _, hs, _⟩ := BOK.cells h (.inl h0)
  exact ⟨by simp [World.shape?, hh, hs], hn⟩

theorem liesAt_head {e : TypeId} (hc : 0 < P.cellsOf e) (count : Nat) (hn : 1 ≤ count) : liesAt P P.depth e count 0 e 1 = true := by
  have hd : P.depth = (2 * (P.types.size + Made.depth) + 1) + 1 := rfl
  rw [hd]
  simp only [liesAt, Bool.or_eq_true]
  left
  rw [hd]
  simp [rowAt, sameLayout, hn]
  omega

theorem opConvP_ok {s d' x a d} (h : (opConvP P m s d' x).get = some d) (hr : RS w Im ρ m) (hx : VR w Im ρ x a) : Quiet w Im ρ P d (convert s d' a) := by
  unfold opConvP at h
  split at h
  · rename_i r sz
    split at h
    · rename_i row hl
      split at h
      · rename_i hsz
        obtain ⟨g, n, cap, hg, rfl, hi⟩ := ptr_at hr hl hx
        obtain ⟨hsh, hnc⟩ := row_shape hr hl hg (by omega)
        have h0 : 0 < row.sz := (hr.row _ _ hl).1
        split at h
        · rename_i t hs hd
          split at h
          · rename_i hz
            obtain ⟨_, rfl⟩ := get_val h
            unfold sized at hz
            split at hz
            · rename_i j hj
              have hjz : j.size ≠ 0 := by simpa using hz
              have := Lib.run_to_unsafe w ⟨g, 0 * sz + 0, none⟩ hs hd hj hjz hsh (by simp only [Nat.zero_mul, Nat.add_zero]; exact Nat.mul_pos (by omega) h0)
              exact ⟨rfl, _, this, hx⟩
            · cases hz
          · cases h
        · rename_i u hs hd
          split at h
          · rename_i hc
            obtain ⟨hu, hsu, hinf⟩ := hc
            obtain ⟨_, rfl⟩ := get_val h
            obtain ⟨j, hj⟩ := Option.isSome_iff_exists.1 hinf
            subst hu
            have hcz : P.cellsOf row.e = row.sz := by omega
            have hlies : liesAt P P.depth row.e (cap * row.sz / P.cellsOf row.e) (0 * sz + 0) row.e 1 = true := by
              rw [hcz, Nat.mul_div_cancel _ h0]
              simp only [Nat.zero_mul, Nat.add_zero]
              exact liesAt_head (by omega) _ (by omega)
            have := Lib.run_from_unsafe w ⟨g, 0 * sz + 0, none⟩ hs hd hj hsh hlies
            exact ⟨rfl, _, this, hx⟩
          · cases h
        · cases h
      · cases h
    · cases h
  · cases h

theorem conv2_ok {nb s t x a d} (h : (conv2 P m s t nb x).get = some d) (hr : RS w Im ρ m) (hx : VR w Im ρ x a) (hf : ∀ q, nb ≤ q → q < nb + 64 → ρ q = .unborn) :
    Does nb Im ρ m w P d (convert s t a) := by
  unfold conv2 at h
  cases hc : isPtrV x with
  | true => rw [hc] at h; exact Quiet.does (opConvP_ok h hr hx) hr
  | false => rw [hc] at h; exact opConv_ok h hr hx hf

/-! ### Bytes that become a string -/
theorem opSliceData_ok {nb x a d} {ty : TypeId} (h : (opSliceData P m ty x).get = some d) (hr : RS w Im ρ m) (hx : VR w Im ρ x a) (ts : Array TypeId) : Does nb Im ρ m w P d (Builtin.unsafeSliceData_ ts ty #[a]) := by
  unfold opSliceData at h
  split at h
  · rename_i r sz
    split at h
    · rename_i row hl
      split at h
      · rename_i hsz
        obtain ⟨hc, rfl⟩ := get_val h
        simp only [leI_eq, ltI_eq, decide_eq_true_eq] at hc
        rcases (hr.row _ _ hl).count with ⟨g, cap, hg⟩ | ⟨hv, h0⟩
        · simp only [VR, hg] at hx
          subst hx
          obtain ⟨hsh, hnc⟩ := row_shape hr hl hg hc
          refine ⟨_, w, Im, ρ, Lib.run_unsafeSliceData_row w ts ty _ _ _ (by omega), Eff.none hr, ?_⟩
          simp only [VR, hg]
          exact ⟨⟨_, rfl⟩, fun _ => rfl⟩
        · omega
      · cases h
    · cases h
  · rename_i r
    split at h
    · rename_i row hl
      split at h
      · rename_i hsz
        obtain ⟨hobj, hty⟩ := hsz
        obtain ⟨_, rfl⟩ := get_val h
        have hrow := hr.row _ _ hl
        simp only [RowOK] at hrow
        cases hg : ρ r with
        | unborn => rw [hg] at hrow; exact hrow.2.2.elim
        | gone => rw [hg] at hrow; exact hrow.2.2.elim
        | virt =>
          simp only [VR, hg] at hx
          obtain rfl := hx
          exact ⟨_, w, Im, ρ, Lib.run_unsafeSliceData_nil w ts ty _ _, Eff.none hr, by simp only [VR, hg]; rfl⟩
        | blk g n cap =>
          simp only [VR, hg] at hx
          obtain rfl := hx
          rw [hg] at hrow
          obtain ⟨cur, fr, hh, hnf, hcnt, hcap, hmax, hcs, hv⟩ := BOK.cells hrow.2.2 (.inr hobj)
          by_cases hc : cap = 0
          · subst hc
            obtain ⟨e, he⟩ := Option.isSome_iff_exists.1 hty
            have hsh : w.shape? g = some (row.e, cur.size) := by simp [World.shape?, hh]
            refine ⟨_, _, Im, ρ, Lib.run_unsafeSliceData_zero w ts ty e (ptrT_under he) ⟨g, 0, none⟩ n _ hsh, Eff.keep hr (kp_alloc _ _), ?_⟩
            simp only [VR, hg]
            exact ⟨⟨_, rfl⟩, fun h0 => by omega⟩
          · refine ⟨_, w, Im, ρ, Lib.run_unsafeSliceData_row w ts ty _ _ _ hc, Eff.none hr, ?_⟩
            simp only [VR, hg]
            exact ⟨⟨_, rfl⟩, fun _ => rfl⟩
      · cases h
    · cases h
  · cases h

theorem run_loadInts : ∀ (l : List Int) (a : Addr) (acc : ByteArray), (∀ j x, l[j]? = some x → w.cell? (a.add j) = some (.int .u8 x)) →
    (loadBytes a acc l.length).run P w = .ok ⟨acc.data ++ (l.map fun n => UInt8.ofNat n.toNat).toArray⟩ w
  | [], a, acc, _ => by simp [loadBytes]
  | x :: l, a, acc, h => by
    have h0 : w.cell? a = some (.int .u8 x) := by
      have := h 0 x rfl
      simpa [Addr.add] using this
    have ih := run_loadInts l (a.add 1) (acc.push (x.toNat.toUInt8)) (fun j y hy => by
      have := h (j + 1) y (by simpa using hy)
      have e : (a.add 1).add j = a.add (j + 1) := by
        unfold Addr.add
        by_cases hj : j = 0
        · subst hj; simp
        · simp [hj]; omega
      rw [e]; exact this)
    simp only [List.length_cons, loadBytes, Sem.run_bind, run_load, h0, Result.andThen]
    rw [ih]
    congr 1
    apply ByteArray.ext
    simp [ByteArray.push]

theorem run_unsafeString_ints (pt it ty e : TypeId) (hp : P.underlying pt = some (.pointer e)) (hc : P.cellsOf e = 1) (g cells : Nat) (hsh : w.shape? g = some (e, cells)) (l : List Int) (h0 : l ≠ []) (hn : l.length ≤ cells) (h63 : l.length ≤ 9223372036854775807)
    (hcell : ∀ j x, l[j]? = some x → w.cell? ((⟨g, 0, none⟩ : Addr).add j) = some (.int .u8 x)) (ts : List TypeId) :
    (Builtin.unsafeString_ (pt :: ts).toArray ty #[.pointer (some ⟨g, 0, none⟩), .int .i64 l.length]).run P w = .ok (.string (bytesS l)) (w.freeze ⟨g, 0, none⟩ l.length) := by
  have hl : l.length ≠ 0 := by simpa using h0
  have hlb := run_loadInts (P := P) l ⟨g, 0, none⟩ .empty hcell
  have hlies := Lib.liesAt_bytes (P := P) hc (cells / P.cellsOf e) l.length (by rw [hc]; simpa using hn)
  have h63' : ¬ (9223372036854775807 : Int) < (l.length : Int) := by omega
  have hdef : Builtin.unsafeString_ (pt :: ts).toArray ty #[.pointer (some ⟨g, 0, none⟩), .int .i64 l.length] =
      (do
        let n ← asInt (.int .i64 l.length)
        if n < 0 then runtimePanic (.error "unsafe.String: len out of range")
        if n > IntKind.i64.max then unsupported (.unsafePointer "String: a length above the largest int")
        if n = 0 then pure (.string .empty)
        else if ← variablesAt ⟨g, 0, none⟩ (← elemOf pt) n.toNat then do
          let s ← loadBytes ⟨g, 0, none⟩ .empty n.toNat
          freeze ⟨g, 0, none⟩ n.toNat
          pure (.string s)
        else unsupported (.unsafePointer "String: not so many bytes at ptr")) := rfl
  rw [hdef]
  have hmax : IntKind.i64.max = 9223372036854775807 := rfl
  have hneg : ¬ (l.length : Int) < 0 := by omega
  simp [asInt, asIntOf, hmax, h63', hneg, hl, variablesAt, hsh, elemOf, run_underlying hp, hlies, hlb, bytesS]

/-- A row is given up: its block may turn. -/
theorem Eff.lose {nb Im ρ m w w'} (h : RS w Im ρ m) {r : Nat} {g n cap : Nat} (hr : ρ r = .blk g n cap) (hk : Kp (fun b => b = g) w w') :
    Eff nb Im ρ w Im (upd ρ r .gone) (delR m r) w' := by
  have hk' : Kp (ownB ρ) w w' := ⟨hk.os, hk.tape, hk.output, hk.size, fun b hb hn => hk.blk b hb (fun e => hn ⟨r, n, cap, e ▸ hr⟩)⟩
  have hE : Ext ρ (upd ρ r .gone) := Ext.del ρ r
  have hnb : ∀ a b c d, upd ρ r .gone a = .blk b c d → r ≠ a ∧ ρ a = .blk b c d := by
    intro a b c d e1
    by_cases e' : r = a
    · subst e'; rw [upd_same] at e1; cases e1
    · rw [upd_other e'] at e1; exact ⟨e', e1⟩
  refine ⟨⟨?_, ?_, ?_, ?_, fun b hb => Nat.lt_of_lt_of_le (h.imlt b hb) hk.size, h.gd_keep hk'⟩, hk', hE, fun _ h => h, fun _ h => .inl h, ?_, ?_⟩
  · intro a z hz
    rw [look_del] at hz
    by_cases e' : r = a
    · simp [e'] at hz
    · rw [if_neg e'] at hz
      refine RowOK.keep h (h.row a z hz) hk' hE (upd_other e') (fun g' n'' c'' e'' => hk.blk g' (h.lt e'') (fun e3 => e' ?_))
      subst e3
      exact h.inj _ _ _ _ _ _ _ hr e''
  · intro a hz
    rw [look_del] at hz
    by_cases e' : r = a
    · subst e'; rw [upd_same]; exact .inl rfl
    · rw [if_neg e'] at hz; rw [upd_other e']; exact h.gone a hz
  · intro a b g' n1 c1 n2 c2 e1 e2
    exact h.inj _ _ _ _ _ _ _ (hnb _ _ _ _ e1).2 (hnb _ _ _ _ e2).2
  · intro a g' n1 c1 e1
    exact h.noim _ _ _ _ (hnb _ _ _ _ e1).2
  · rintro b ⟨a, n1, c1, e1⟩
    exact .inr ⟨a, n1, c1, (hnb _ _ _ _ e1).2⟩
  · intro a e1 e2
    by_cases e' : r = a
    · subst e'; rw [hr] at e1; cases e1
    · rw [upd_other e']; exact e1

theorem Kp.freeze (w : World) (g n : Nat) : Kp (fun b => b = g) w (w.freeze ⟨g, 0, none⟩ n) := by
  unfold World.freeze
  split
  · exact Kp.refl _ _
  · exact ⟨rfl, rfl, rfl, by simp, fun b hb hne => by simp only [Array.getElem?_modify]; rw [if_neg (Ne.symm hne)]⟩

theorem flat_ints : ∀ xs : List (El (.int .u8)), xs.flatMap (enc (.int .u8)) = xs.map (AV.int .u8)
  | [] => rfl
  | x :: l => by
    rw [List.flatMap_cons, flat_ints l]
    rfl

theorem ints_vals : ∀ (xs : List Int) (vs : List Value), VRs w Im ρ (xs.map (AV.int .u8)) vs → vs = xs.map (Value.int .u8)
  | [], vs, h => by simpa [VRs] using h
  | x :: l, vs, h => by
    obtain ⟨v, r, rfl, hv, hr⟩ := VRs_cons.1 h
    obtain rfl := hv
    rw [ints_vals l r hr]
    rfl

theorem run_unsafeString_nothing (pt : TypeId) (ts : List TypeId) (ty : TypeId) (p : Option Addr) : (Builtin.unsafeString_ (pt :: ts).toArray ty #[.pointer p, .int .i64 0]).run P w = .ok (.string .empty) w := by
  have hmax : IntKind.i64.max = 9223372036854775807 := rfl
  cases p with
  | none =>
    have hdef : Builtin.unsafeString_ (pt :: ts).toArray ty #[.pointer none, .int .i64 0] =
        (do
          let n ← asInt (.int .i64 0)
          if n < 0 then runtimePanic (.error "unsafe.String: len out of range")
          if n > IntKind.i64.max then unsupported (.unsafePointer "String: a length above the largest int")
          if n = 0 then pure (.string .empty)
          else runtimePanic (.error "unsafe.String: ptr is nil and len is not zero")) := rfl
    rw [hdef]
    simp [asInt, asIntOf, hmax]
  | some a =>
    have hdef : Builtin.unsafeString_ (pt :: ts).toArray ty #[.pointer (some a), .int .i64 0] =
        (do
          let n ← asInt (.int .i64 0)
          if n < 0 then runtimePanic (.error "unsafe.String: len out of range")
          if n > IntKind.i64.max then unsupported (.unsafePointer "String: a length above the largest int")
          if n = 0 then pure (.string .empty)
          else if ← variablesAt a (← elemOf pt) n.toNat then do
            let s ← loadBytes a .empty n.toNat
            freeze a n.toNat
            pure (.string s)
          else unsupported (.unsafePointer "String: not so many bytes at ptr")) := rfl
    rw [hdef]
    simp [asInt, asIntOf, hmax]

theorem opUStr_ok {nb pt x n a b d} (h : (opUStr P m pt x n).get = some d) (hr : RS w Im ρ m) (hx : VR w Im ρ x a) (hn : VR w Im ρ n b) (ts : List TypeId) (ty : TypeId) :
    Does nb Im ρ m w P d (Builtin.unsafeString_ (pt :: ts).toArray ty #[a, b]) := by
  unfold opUStr at h
  split at h
  · rename_i r k
    split at h
    · rename_i e xs hl
      split at h
      · rename_i hc
        obtain ⟨hp, hc1⟩ := hc
        obtain ⟨hcond, rfl⟩ := get_val h
        simp only [decide_eq_true_eq] at hcond
        have hk := hcond
        obtain rfl := hn
        have hrw := hr.row _ _ hl
        simp only [RowOK] at hrw
        have hnil : ∀ p, (Builtin.unsafeString_ (pt :: ts).toArray ty #[.pointer p, .int .i64 0]).run P w = .ok (.string .empty) w := fun p => run_unsafeString_nothing pt ts ty p
        cases hg : ρ r with
        | unborn => rw [hg] at hrw; exact hrw.2.2.elim
        | gone => rw [hg] at hrw; exact hrw.2.2.elim
        | virt =>
          rw [hg] at hrw
          have h0 : xs = [] := List.eq_nil_of_length_eq_zero (by simpa [Row.count] using hrw.2.2.1)
          subst h0
          simp only [VR, hg] at hx
          obtain rfl := hx
          subst hk
          refine ⟨_, w, Im, upd ρ r .gone, hnil none, ?_, rfl⟩
          have := Eff.del (nb := nb) hr r
          rw [hg, if_neg (by intro e; cases e)] at this
          exact this
        | blk g n' cap =>
        rw [hg] at hrw
        simp only [VR, hg] at hx
        obtain ⟨⟨p, rfl⟩, hpos⟩ := hx
        obtain ⟨_, hok, hrow⟩ := hrw
        obtain ⟨cur, fr, hh, hnf, hcnt, hcap, hmax, hsz, hv⟩ := hrow
        simp only [Row.count] at hcnt
        subst hcnt
        by_cases hne : xs = []
        · subst hne
          subst hk
          refine ⟨_, w, Im, upd ρ r .gone, hnil p, ?_, rfl⟩
          have := Eff.del (nb := nb) hr r
          rw [hg, if_neg (by intro e; cases e)] at this
          exact this
        · have hp0 := hpos (List.length_pos_iff.2 hne)
          cases hp0
          have hsh : w.shape? g = some (e, cap * 1) := by simp [World.shape?, hh, ← hsz]
          simp only [RC.flat, Nat.mul_one] at hv
          rw [show List.flatMap (enc (.int .u8)) xs = List.map (AV.int .u8) xs from flat_ints xs] at hv
          have hcur := ints_vals _ _ hv
          have hrun := run_unsafeString_ints (w := w) (P := P) pt 0 ty e (ptrT_under hp) hc1 g (cap * 1) hsh xs hne (by omega) (by simp only [maxLen] at hmax; omega) (fun j y hj => by
            have hj' : j < xs.length := (List.getElem?_eq_some_iff.1 hj).1
            have hcell : (cur.toList.take xs.length)[j]? = some (.int .u8 y) := by rw [hcur]; simp [hj]
            rw [List.getElem?_take_of_lt hj', Array.getElem?_toList] at hcell
            have ha : ((⟨g, 0, none⟩ : Addr).add j) = ⟨g, j, none⟩ := by
              unfold Addr.add
              by_cases e0 : j = 0
              · subst e0; rfl
              · simp [e0]
            rw [ha]
            simp [World.cell?, hh, hcell]) ts
          subst hk
          refine ⟨_, _, Im, upd ρ r .gone, ?_, Eff.lose hr hg (Kp.freeze w g xs.length), rfl⟩
          simpa using hrun
      · cases h
    · cases h
  · cases h

/-! ### What is given back -/
theorem isSame_run {f : FuncId} (h : isSame P f = true) (x : Value) : (callFunc f #[x]).run P w = .ok (.value x) w := by
  unfold isSame at h
  split at h
  · rename_i fn hf
    simp only [Bool.and_eq_true, beq_iff_eq] at h
    obtain ⟨hb, hn, ho⟩ := h
    have e1 : (Extern.allNextRows.lookup "internal/abi.NoEscape").isNone = true := by kernel_rfl
    have e2 : (Extern.allNextRows.lookup "").isNone = true := by kernel_rfl
    have e3 : (Extern.allGenericRows.lookup "internal/abi.NoEscape").isNone = true := by kernel_rfl
    have e4 : (Extern.allTypedRows.lookup "internal/abi.NoEscape").isNone = true := by kernel_rfl
    have e5 : Extern.allRows.lookup "internal/abi.NoEscape" = some Extern.AbiNoEscape.same := by kernel_rfl
    rw [Option.isNone_iff_eq_none] at e1 e2 e3 e4
    have h1 : Extern.findNext fn = none := by
      unfold Extern.findNext
      simp only [hn, ho, e1, e2]
      rfl
    have h2 : Extern.find fn = some Extern.AbiNoEscape.same := by
      unfold Extern.find
      simp only [hn, e3, e4, e5]
      rfl
    rw [run_callFunc_extern hf (by simp [hn]) hb h1 h2]
    rfl
  · cases h
end Go.Proofs.YtfogafinohfpfaaGreatDoorV
