/-
  VS, part 8: the operations that slice, and those that make memory.
-/
import Derived.Test.YtkmcnmjjfgahpaaVsG
namespace Go.VS

/-! slicing -/

section ops
variable {P : Program} {E : TEnv} (hE : ∀ t ti, E t = some ti → TyOK P t ti)
variable {w : World} {G : Heap} {φ : Phi} {A : Avoid}

theorem run_sliceBound (k : IntKind) {i : Int} {y : Nat} (h0 : 0 ≤ i) (h1 : i ≤ y) (code : BoundsCode) : (Instr.sliceBound (.int k i) y code).run P w = .ok i.toNat w := by
  simp [Instr.sliceBound, asIntOf, h0, h1]

/-- A bound as it lies among the operands. -/
structure BOK (x : Option Int) (v : Option Value) : Prop where
  out : (x = none ∧ v = none) ∨ ∃ k i, x = some i ∧ v = some (.int k i)

theorem bok_of {x : Option AV} {v : Option Value} {r : Option Int} (h : intOp x = some r) (hv : (x = none ∧ v = none) ∨ ∃ y u, x = some y ∧ v = some u ∧ R w G φ A y u) : BOK r v := by
  rcases hv with ⟨rfl, rfl⟩ | ⟨y, u, rfl, rfl, hr⟩
  · simp [intOp] at h; exact ⟨.inl ⟨h.symm, rfl⟩⟩
  · cases y with
    | int k n => simp [intOp] at h; have := hr.int_inv; subst this; exact ⟨.inr ⟨k, n, h.symm, rfl⟩⟩
    | _ => simp [intOp] at h

theorem run_sliceBounds {isSlice : Bool} {len cap : Nat} {lo hi : Option Int} {vlo vhi : Option Value} (hlo : BOK lo vlo) (hhi : BOK hi vhi)
    (h0 : 0 ≤ lo.getD 0) (h1 : lo.getD 0 ≤ hi.getD len) (h2 : hi.getD len ≤ cap) :
    (Instr.sliceBounds isSlice len cap vlo vhi none).run P w = .ok ((lo.getD 0).toNat, (hi.getD len).toNat, cap) w := by
  unfold Instr.sliceBounds
  rcases hhi.out with ⟨rfl, rfl⟩ | ⟨k, i, rfl, rfl⟩
  · rcases hlo.out with ⟨rfl, rfl⟩ | ⟨j, l, rfl, rfl⟩
    · simp
    · simp only [Option.getD_some, Option.getD_none] at *
      simp [run_sliceBound (P := P) (w := w) j h0 (show l ≤ (len : Int) from h1)]
  · simp only [Option.getD_some] at *
    have e1 := run_sliceBound (P := P) (w := w) k (i := i) (y := cap) (by omega) h2
    rcases hlo.out with ⟨rfl, rfl⟩ | ⟨j, l, rfl, rfl⟩
    · simp [e1]
    · simp only [Option.getD_some] at *
      have e2 := run_sliceBound (P := P) (w := w) j (i := l) (y := i.toNat) h0 (by omega)
      simp [e1, e2]

theorem run_sliceBounds3 {len cap : Nat} {lo hi mx : Option Int} {vlo vhi vmx : Option Value} (hlo : BOK lo vlo) (hhi : BOK hi vhi) (hmx : BOK mx vmx) {m : Int} (hm : mx = some m) (hh : hi.isSome)
    (h0 : 0 ≤ lo.getD 0) (h1 : lo.getD 0 ≤ hi.getD len) (h2 : hi.getD len ≤ m) (h3 : m ≤ cap) :
    (Instr.sliceBounds true len cap vlo vhi vmx).run P w = .ok ((lo.getD 0).toNat, (hi.getD len).toNat, m.toNat) w := by
  unfold Instr.sliceBounds
  subst hm
  rcases hmx.out with ⟨h, _⟩ | ⟨km, im, he, rfl⟩
  · simp at h
  simp only [Option.some.injEq] at he; subst he
  have e0 := run_sliceBound (P := P) (w := w) km (i := m) (y := cap) (by omega) h3
  rcases hhi.out with ⟨rfl, rfl⟩ | ⟨k, i, rfl, rfl⟩
  · simp at hh
  · simp only [Option.getD_some] at *
    have e1 := run_sliceBound (P := P) (w := w) k (i := i) (y := m.toNat) (by omega) (by omega)
    rcases hlo.out with ⟨rfl, rfl⟩ | ⟨j, l, rfl, rfl⟩
    · simp [e0, e1]
    · simp only [Option.getD_some] at *
      have e2 := run_sliceBound (P := P) (w := w) j (i := l) (y := i.toNat) h0 (by omega)
      simp [e0, e1, e2]

theorem sliceAt_slice {t e : TypeId} {ti : TI} (ht : TyOK P t ti) (hu : ti.und = .sl e) (x : Value) (lo hi mx : Option Value) : (Instr.sliceAt t x lo hi mx).run P w = (Instr.slice t x lo hi mx).run P w := by
  unfold Instr.sliceAt; simp [ht.sl w hu]
theorem sliceAt_str {t : TypeId} {ti : TI} (ht : TyOK P t ti) (hu : ti.und = .str) (x : Value) (lo hi mx : Option Value) : (Instr.sliceAt t x lo hi mx).run P w = (Instr.slice t x lo hi mx).run P w := by
  unfold Instr.sliceAt; simp [ht.und_str w hu]

/-- A cut of a slice that nobody writes. -/
theorem fz_cut {xs : List AV} {v : Value} {A : Avoid} (h : FR w A (.fz xs) v) {l n sz : Nat} (hl : l + n ≤ xs.length) (hsz : szAll sz xs = true) :
    ∃ a cap, v = .slice a xs.length cap ∧ xs.length ≤ cap ∧ ∀ a' cap', n ≤ cap' → (cap' ≠ 0 → a' = a.map (·.add (l * sz))) → FR w A (.fz ((xs.drop l).take n)) (.slice a' n cap') := by
  by_cases hne : xs = []
  · subst hne
    cases h with
    | fz0 a cap => 
      refine ⟨a, cap, rfl, by simp, fun a' cap' hc _ => ?_⟩
      simp at hl
      obtain ⟨rfl, rfl⟩ := hl
      simpa using FR.fz0 a' cap'
    | fz _ c off cap n arr T fr h1 h2 h3 h4 h5 h6 h7 => 
      refine ⟨_, cap, rfl, by simp, fun a' cap' hc _ => ?_⟩
      simp at hl
      obtain ⟨rfl, rfl⟩ := hl
      simpa using FR.fz0 a' cap'
  · obtain ⟨c, off, cap, m, arr, T, fr, rfl, h1, h2, h3, h4, h5, h6, h7⟩ := fz_inv h hne
    refine ⟨_, cap, rfl, h3, fun a' cap' hc ha => ?_⟩
    have hm : m = sz := by
      obtain ⟨x, xs', rfl⟩ := List.exists_cons_of_ne_nil hne
      have e1 := h5 0 x rfl
      simp only [szAll, List.all_cons, Bool.and_eq_true, beq_iff_eq] at hsz
      omega
    subst hm
    have hlen : ((xs.drop l).take n).length = n := by simp; omega
    by_cases hn : n = 0
    · subst hn; simpa using FR.fz0 a' cap'
    · have ha' := ha (by omega)
      subst ha'
      simp only [Option.map_some, add_none]
      have hle : l * m + n * m ≤ xs.length * m := by rw [← Nat.add_mul]; exact Nat.mul_le_mul_right m hl
      have := FR.fz (w := w) (A := A) ((xs.drop l).take n) c (off + l * m) cap' m arr T fr h1 h2 (by omega) (by rw [hlen]; omega) (fun i x hx => ?_) (fun j v hj hv => ?_) (fun i x j y v hx hy hv => ?_)
      · rwa [hlen] at this
      · simp only [List.getElem?_take, List.getElem?_drop] at hx
        split at hx
        · exact h5 _ _ hx
        · simp at hx
      · rw [hlen] at hj
        exact h6 (l * m + j) v (by omega) (by rw [← hv]; congr 1; omega)
      · simp only [List.getElem?_take, List.getElem?_drop] at hx
        split at hx
        · exact h7 _ _ j y v hx hy (by rw [← hv]; congr 1; rw [Nat.add_mul]; omega)
        · simp at hx

theorem zero_cut {t e : TypeId} {ti : TI} (hT : TyOK P t ti) (hu : ti.und = .sl e) {a : Option Addr} {lo hi mx : Option Int} {vlo vhi vmx : Option Value} (hlo : BOK lo vlo) (hhi : BOK hi vhi) (hmx : BOK mx vmx)
    (h0 : lo.getD 0 = 0) (h1 : hi.getD 0 = 0) (h2 : mx.getD 0 = 0) (hhm : mx.isSome → hi.isSome) (hsz : ∃ n, (sizeOf e).run P w = .ok n w) : ∃ a', (Instr.sliceAt t (.slice a 0 0) vlo vhi vmx).run P w = .ok (.slice a' 0 0) w ∧ (a = none → a' = none) := by
  obtain ⟨n, hn⟩ := hsz
  rw [sliceAt_slice hT hu]
  rcases hmx.out with ⟨rfl, rfl⟩ | ⟨km, im, rfl, rfl⟩
  · have := run_sliceBounds (P := P) (w := w) (isSlice := true) (len := 0) (cap := 0) hlo hhi (by omega) (by simp; omega) (by simp; omega)
    have e0 : (lo.getD 0).toNat = 0 := by omega
    have e1 : (hi.getD ((0 : Nat) : Int)).toNat = 0 := by simp; omega
    rw [e0, e1] at this
    exact ⟨a, by simp [Instr.slice, hT.sl w hu, this, hn], fun h => h⟩
  · simp only [Option.getD_some] at h2
    subst h2
    have := run_sliceBounds3 (P := P) (w := w) (len := 0) (cap := 0) hlo hhi hmx rfl (hhm rfl) (by omega) (by simp; omega) (by simp; omega) (by simp)
    have e0 : (lo.getD 0).toNat = 0 := by omega
    have e1 : (hi.getD ((0 : Nat) : Int)).toNat = 0 := by simp; omega
    rw [e0, e1] at this
    exact ⟨a, by simp [Instr.slice, hT.sl w hu, this, hn], fun h => h⟩

include hE in
theorem q_slice {H0 : Heap} (hX : Ext H0 G) {t : TypeId} {x : AV} {a : Value} {lo hi mx : Option Int} {vlo vhi vmx : Option Value} {z : AV} (hx : R w G φ A x a) (hlo : BOK lo vlo) (hhi : BOK hi vhi) (hmx : BOK mx vmx)
    (h : sliceA E t x lo hi mx H0 = some z) : ∃ v, (Instr.sliceAt t a vlo vhi vmx).run P w = .ok v w ∧ R w G φ A z v := by
  unfold sliceA at h
  cases h1 : E t with
  | none => simp [h1] at h
  | some ti =>
    simp only [h1] at h
    have hT := hE _ _ h1
    split at h
    · rename_i s
      split at h
      · rename_i hu
        obtain ⟨bs, rfl, hs⟩ := hx.str_inv
        split at h
        · rename_i hc
          simp only [Option.some.injEq] at h; subst h
          obtain ⟨c0, c1, c2⟩ := hc
          have hlen : s.length = bs.size := by rw [← hs]; exact Array.length_toList
          rw [hlen] at c1 c2 ⊢
          have hm : vmx = none := by rcases hmx.out with ⟨_, h⟩ | ⟨_, _, h, _⟩; exact h; simp at h
          subst hm
          rw [sliceAt_str hT hu]
          refine ⟨.string (bs.extract (lo.getD 0).toNat (hi.getD bs.size).toNat), ?_, ?_⟩
          · have e := run_sliceBounds (P := P) (w := w) (isSlice := false) (len := bs.size) (cap := bs.size) hlo hhi c0 c1 c2
            simp only [Instr.slice, Sem.run_bind, hT.und_str w hu, Result.andThen_ok, Option.isSome_none, Bool.false_eq_true, if_false, e, Sem.run_pure]
          · have := FR.str (w := w) (A := A) (bs.extract (lo.getD 0).toNat (hi.getD bs.size).toNat)
            have e : (bs.extract (lo.getD 0).toNat (hi.getD bs.size).toNat).data.toList = (s.drop (lo.getD 0).toNat).take ((hi.getD bs.size).toNat - (lo.getD 0).toNat) := by
              rw [ByteArray.data_extract, Array.toList_extract, ← hs, List.extract_eq_take_drop]
            rw [e] at this
            exact .fr _ _ this
        · simp at h
      · simp at h
    · rename_i xs
      split at h
      · rename_i e hu
        cases h2 : E e with
        | none => simp [h2] at h
        | some te =>
          simp only [h2] at h
          split at h
          · simp at h
          · rename_i hsz
            simp only [Bool.not_eq_true, Bool.not_eq_false'] at hsz
            have hsz : szAll te.sz xs = true := by simpa using hsz
            rw [sliceAt_slice hT hu]
            split at h
            · rename_i hm0
              split at h
              · rename_i hc
                simp only [Option.some.injEq] at h; subst h
                obtain ⟨c0, c1, c2⟩ := hc
                have hm : vmx = none := by rcases hmx.out with ⟨_, h⟩ | ⟨_, _, h, _⟩; exact h; simp at h
                subst hm
                obtain ⟨a0, cap, rfl, hcap, hcut⟩ := fz_cut hx.fz_inv (l := (lo.getD 0).toNat) (n := (hi.getD xs.length).toNat - (lo.getD 0).toNat) (by omega) hsz
                refine ⟨.slice (if cap = (lo.getD 0).toNat then a0 else a0.map (·.add ((lo.getD 0).toNat * te.sz))) ((hi.getD xs.length).toNat - (lo.getD 0).toNat) (cap - (lo.getD 0).toNat), ?_, .fr _ _ (hcut _ _ (by omega) fun hne => by rw [if_neg (by omega)])⟩
                simp [Instr.slice, hT.sl w hu, run_sliceBounds (P := P) (w := w) (isSlice := true) (len := xs.length) (cap := cap) hlo hhi c0 c1 (by omega), (hE _ _ h2).sizeOf]
              · simp at h
            · rename_i m
              split at h
              · rename_i hc
                simp only [Option.some.injEq] at h; subst h
                obtain ⟨c0, c1, c2, c3, c4⟩ := hc
                obtain ⟨a0, cap, rfl, hcap, _⟩ := fz_cut hx.fz_inv (l := 0) (n := 0) (by omega) hsz
                have e3 := run_sliceBounds3 (P := P) (w := w) (len := xs.length) (cap := cap) hlo hhi hmx rfl c0 c1 (by omega) (by omega) (by omega)
                have e4 : (hi.getD xs.length).toNat - (lo.getD 0).toNat = 0 := by omega
                have e5 : m.toNat - (lo.getD 0).toNat = 0 := by omega
                refine ⟨_, by simp [Instr.slice, hT.sl w hu, e3, (hE _ _ h2).sizeOf, e4, e5]; rfl, .fr _ _ (.e0 _)⟩
              · simp at h
      · simp at h
    · rename_i id ver off len
      split at h
      · rename_i e b hu hb
        cases h2 : E e with
        | none => simp [h2] at h
        | some te =>
          simp only [h2] at h
          split at h
          · simp at h
          · rename_i hsz
            simp only [ne_eq, Decidable.not_not] at hsz
            obtain ⟨hv, _, hr⟩ := hx.ref_inv
            obtain ⟨loc, a0, cap, k1, rfl, k3, k4, k5, k6⟩ := (hr b (hX.blk hb)).out
            rw [sliceAt_slice hT hu]
            split at h
            · rename_i hm0
              split at h
              · rename_i hc
                simp only [Option.some.injEq] at h; subst h
                obtain ⟨c0, c1, c2⟩ := hc
                have hm : vmx = none := by rcases hmx.out with ⟨_, h⟩ | ⟨_, _, h, _⟩; exact h; simp at h
                subst hm
                refine ⟨.slice (if cap = (lo.getD 0).toNat then a0 else a0.map (·.add ((lo.getD 0).toNat * te.sz))) ((hi.getD len).toNat - (lo.getD 0).toNat) (cap - (lo.getD 0).toNat), ?_, ?_⟩
                · simp [Instr.slice, hT.sl w hu, run_sliceBounds (P := P) (w := w) (isSlice := true) (len := len) (cap := cap) hlo hhi c0 c1 (by omega), (hE _ _ h2).sizeOf]
                · refine .ref _ _ _ _ _ hv ⟨_, _, _, rfl⟩ fun b' hb' => ?_
                  rw [hX.blk hb] at hb'
                  simp only [Option.some.injEq] at hb'; subst hb'
                  refine ⟨loc, _, _, k1, rfl, by omega, by omega, by omega, ?_⟩
                  cases loc with
                  | virt => simp only at k6 ⊢; exact ⟨k6.1, fun hf => by have := k6.2 hf; omega⟩
                  | at_ c b0 =>
                    simp only at k6 ⊢
                    rcases k6 with k6 | ⟨rfl, k7⟩
                    · left; omega
                    · by_cases hz : cap = (lo.getD 0).toNat
                      · left; omega
                      · right
                        rw [if_neg hz]
                        simp only [Option.map_some, add_none]
                        refine ⟨by rw [Nat.add_mul, hsz]; congr 2; omega, ?_⟩
                        have : off + (lo.getD 0).toNat + (cap - (lo.getD 0).toNat) = off + cap := by omega
                        rw [this]; exact k7
              · simp at h
            · rename_i m
              split at h
              · rename_i hc
                simp only [Option.some.injEq] at h; subst h
                obtain ⟨c0, c1, c2, c3, c4⟩ := hc
                have e3 := run_sliceBounds3 (P := P) (w := w) (len := len) (cap := cap) hlo hhi hmx rfl c0 c1 (by omega) (by omega) (by omega)
                have e4 : (hi.getD len).toNat - (lo.getD 0).toNat = 0 := by omega
                have e5 : m.toNat - (lo.getD 0).toNat = 0 := by omega
                refine ⟨_, by simp [Instr.slice, hT.sl w hu, e3, (hE _ _ h2).sizeOf, e4, e5]; rfl, .fr _ _ (.e0 _)⟩
              · simp at h
      · simp at h
    · split at h
      · rename_i e hu
        split at h
        rotate_left
        · simp at h
        rename_i te h2
        split at h
        · rename_i hc
          simp only [Option.some.injEq] at h; subst h
          have := hx.nil_inv; subst this
          obtain ⟨a', hr⟩ := zero_cut hT hu (a := none) hlo hhi hmx hc.1 hc.2.1 hc.2.2.1 hc.2.2.2 ⟨_, (hE _ _ h2).sizeOf w⟩
          exact ⟨_, hr.1, by rw [hr.2 rfl]; exact .fr _ _ .nil⟩
        · simp at h
      · simp at h
    · split at h
      · rename_i e hu
        split at h
        rotate_left
        · simp at h
        rename_i te h2
        split at h
        · rename_i hc
          simp only [Option.some.injEq] at h; subst h
          obtain ⟨a0, rfl⟩ := hx.e0_inv
          obtain ⟨a', hr⟩ := zero_cut hT hu (a := a0) hlo hhi hmx hc.1 hc.2.1 hc.2.2.1 hc.2.2.2 ⟨_, (hE _ _ h2).sizeOf w⟩
          exact ⟨_, hr.1, .fr _ _ (.e0 _)⟩
        · simp at h
      · simp at h
    · simp at h
end ops
end Go.VS
