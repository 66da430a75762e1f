/- How the other operations hang on the state. -/
import Derived.Test.YtiplgkbgkmomlaaD17b
set_option linter.unusedVariables false
set_option linter.unusedSimpArgs false
namespace Go.Proofs.YtiplgkbgkmomlaaD
open Go

section
variable {Γ : Tab} {spec : CallRel} {o : Oper} {N N' : Nat} {t t' : List (Nat × V)} {g : List (Option Obj)}

theorem LeB.putSome {g : List (Option Obj)} {i : Nat} {cs ds : List V} (h : obOf g i = some ⟨false, cs⟩) : LeB g (setOb g i (some ⟨false, ds⟩)) := fun j cs' hj => by
  rw [obOf_set]
  by_cases hji : j = i
  · subst hji
    rw [h] at hj
    cases hj
  · rw [if_neg (fun he => hji he.1)]
    exact hj
theorem callsF (s : St) (f : Nat) (args : List V) (K : V → St → Prop) : callsK spec false s f args K = callK spec s f args K := by
  unfold callsK
  simp
theorem callsVF (s : St) (f : Nat) (args : List V) (K : V → St → Prop) : callsV spec false s f args K = callK spec s f args K := by
  unfold callsV
  simp
theorem into_congr {v : V} {K K' : V → St → Prop} (h : intoK ⟨N, t, g⟩ v K) (hK : ∀ u g', LeB g g' → K u ⟨N, t, g'⟩ → K' u ⟨N', t', g'⟩) : intoK ⟨N', t', g⟩ v K' := by
  cases v with
  | sc v => exact nilK_imp h (hK _ _ (LeB.refl g)) (fun ⟨sz, h⟩ => ⟨sz, hK _ _ (LeB.refl g) h⟩)
  | ro n cs => exact hK _ _ (LeB.refl g) h
  | sub i j =>
    simp only [intoK] at h ⊢
    cases hob : obOf g i with
    | none => rw [show St.ob ⟨N, t, g⟩ i = none from hob] at h; exact h.elim
    | some ob =>
    obtain ⟨bx, cs⟩ := ob
    rw [show St.ob ⟨N, t, g⟩ i = _ from hob] at h
    rw [show St.ob ⟨N', t', g⟩ i = _ from hob]
    cases bx with
    | true => exact h.elim
    | false =>
      obtain ⟨sz, n, r, h1, h2⟩ := h
      exact ⟨sz, n, r, h1, hK _ _ (LeB.putSome hob) h2⟩
  | own i sz off n lo hi =>
    cases off with
    | succ off => exact h.elim
    | zero =>
    simp only [intoK] at h ⊢
    cases hob : obOf g i with
    | none => rw [show St.ob ⟨N, t, g⟩ i = none from hob] at h; exact h.elim
    | some ob =>
    obtain ⟨bx, cs⟩ := ob
    rw [show St.ob ⟨N, t, g⟩ i = _ from hob] at h
    rw [show St.ob ⟨N', t', g⟩ i = _ from hob]
    cases bx with
    | true => exact h.elim
    | false => exact ⟨h.1, hK _ _ (LeB.put hob) h.2⟩
  | _ => exact h.elim
theorem intos_congr : ∀ {vs : List V} {g : List (Option Obj)} {K K' : List V → St → Prop}, intosK ⟨N, t, g⟩ vs K → (∀ us g', LeB g g' → K us ⟨N, t, g'⟩ → K' us ⟨N', t', g'⟩) → intosK ⟨N', t', g⟩ vs K'
  | [], g, K, K', h, hK => hK _ _ (LeB.refl g) h
  | v :: vs, g, K, K', h, hK => into_congr h fun u g' hle h1 => intos_congr h1 fun us g2 hle2 h2 => hK _ _ (hle.trans hle2) h2
theorem src_congr {sz : Nat} {v : V} {K K' : Nat → List V → St → Prop} (h : srcK ⟨N, t, g⟩ sz v K) (hK : ∀ m u g', LeB g g' → K m u ⟨N, t, g'⟩ → K' m u ⟨N', t', g'⟩) : srcK ⟨N', t', g⟩ sz v K' := by
  cases v with
  | sc v =>
    simp only [srcK] at h ⊢
    split at h
    · rename_i heq; cases heq
    · rename_i heq; cases heq; exact hK _ _ _ (LeB.refl g) h
    · rename_i heq; cases heq
    · rename_i heq; cases heq
    · exact h.elim
  | ro n cs => exact ⟨h.1, h.2.1, hK _ _ _ (LeB.refl g) h.2.2⟩
  | own i sz' off n lo hi =>
    simp only [srcK] at h ⊢
    cases hob : obOf g i with
    | none => rw [show St.ob ⟨N, t, g⟩ i = none from hob] at h; exact h.elim
    | some ob =>
    obtain ⟨bx, cs⟩ := ob
    rw [show St.ob ⟨N, t, g⟩ i = _ from hob] at h
    rw [show St.ob ⟨N', t', g⟩ i = _ from hob]
    cases bx with
    | true => exact h.elim
    | false =>
      obtain ⟨hb, r, hr, h⟩ := bifT h
      simp only [hb, cond_true]
      exact ⟨r, hr, h.imp (fun h => ⟨h.1, hK _ _ _ (LeB.refl g) h.2⟩) (fun h => ⟨h.1, hK _ _ _ (LeB.put hob) h.2⟩)⟩
  | sub i j =>
    simp only [srcK] at h ⊢
    cases hob : obOf g i with
    | none => rw [show St.ob ⟨N, t, g⟩ i = none from hob] at h; exact h.elim
    | some ob =>
    obtain ⟨bx, cs⟩ := ob
    rw [show St.ob ⟨N, t, g⟩ i = _ from hob] at h
    rw [show St.ob ⟨N', t', g⟩ i = _ from hob]
    cases bx with
    | true => exact h.elim
    | false =>
      obtain ⟨m, r, h1, h2, h3⟩ := h
      exact ⟨m, r, h1, h2, hK _ _ _ (LeB.refl g) h3⟩
  | _ => exact h.elim
theorem self_congr {sz : Nat} {v w : V} {K K' : V → St → Prop} (h : selfK ⟨N, t, g⟩ sz v w K) (hK : ∀ u g', LeB g g' → K u ⟨N, t, g'⟩ → K' u ⟨N', t', g'⟩) : selfK ⟨N', t', g⟩ sz v w K' := by
  unfold selfK at h ⊢
  split at h
  · rename_i i sz1 n lo hi j sz2 off m lo2 hi2
    simp only
    cases hob : obOf g i with
    | none => rw [show St.ob ⟨N, t, g⟩ i = none from hob] at h; exact h.elim
    | some ob =>
    obtain ⟨bx, cs⟩ := ob
    rw [show St.ob ⟨N, t, g⟩ i = _ from hob] at h
    rw [show St.ob ⟨N', t', g⟩ i = _ from hob]
    cases bx with
    | true => exact h.elim
    | false =>
      obtain ⟨hb, h1, r, hr, hs, cs', hcs, h2⟩ := bifT h
      simp only [hb, cond_true]
      exact ⟨h1, r, hr, hs, cs', hcs, hK _ _ ((LeB.put hob).trans (LeG.app _ _).b) h2⟩
  · exact h.elim
mutual
theorem snap_congr : ∀ {v : V} {K K' : V → Prop}, snapK ⟨N, t, g⟩ v K → (∀ u, K u → K' u) → snapK ⟨N', t', g⟩ v K'
  | .sc v, K, K', h, hK => nilK_imp h (hK _) (hK _)
  | .ro n cs, K, K', h, hK => hK _ h
  | .own i sz off n lo hi, K, K', h, hK => by
    simp only [snapK] at h ⊢
    cases hob : obOf g i with
    | none => rw [show St.ob ⟨N, t, g⟩ i = none from hob] at h; exact h.elim
    | some ob =>
    obtain ⟨bx, cs⟩ := ob
    rw [show St.ob ⟨N, t, g⟩ i = _ from hob] at h
    rw [show St.ob ⟨N', t', g⟩ i = _ from hob]
    cases bx with
    | true => exact h.elim
    | false =>
      obtain ⟨r, r', h1, h2, h3⟩ := h
      exact ⟨r, r', h1, h2, hK _ h3⟩
  | .sub i j, K, K', h, hK => by
    simp only [snapK] at h ⊢
    cases hob : obOf g i with
    | none => rw [show St.ob ⟨N, t, g⟩ i = none from hob] at h; exact h.elim
    | some ob =>
    obtain ⟨bx, cs⟩ := ob
    rw [show St.ob ⟨N, t, g⟩ i = _ from hob] at h
    rw [show St.ob ⟨N', t', g⟩ i = _ from hob]
    cases bx with
    | true => exact h.elim
    | false =>
      obtain ⟨sz, n, r, r', h1, h2, h3⟩ := h
      exact ⟨sz, n, r, r', h1, h2, hK _ h3⟩
  | .agg cs, K, K', h, hK => snaps_congr (vs := cs) h fun us hu => hK _ hu
  | .fn f cs, K, K', h, hK => snaps_congr (vs := cs) h fun us hu => hK _ hu
  | .rp cs, K, K', h, hK => hK _ h
  | .ptr i off, K, K', h, hK => by
    simp only [snapK] at h ⊢
    cases hob : obOf g i with
    | none => rw [show St.ob ⟨N, t, g⟩ i = none from hob] at h; exact h.elim
    | some ob =>
    obtain ⟨bx, cs⟩ := ob
    rw [show St.ob ⟨N, t, g⟩ i = _ from hob] at h
    rw [show St.ob ⟨N', t', g⟩ i = _ from hob]
    cases bx with
    | true =>
      simp only at h ⊢
      cases hb : cs.all flat with
      | true =>
        rw [hb] at h
        obtain ⟨r, h1, h2⟩ := h
        exact ⟨r, h1, hK _ h2⟩
      | false =>
        rw [hb] at h
        obtain ⟨d, r, h1, h2⟩ := h
        exact ⟨d, r, h1, hK _ h2⟩
    | false =>
      obtain ⟨hb, r, h1, h2⟩ := bifF h
      simp only [hb, cond_false]
      exact ⟨r, h1, hK _ h2⟩
  | .tr _ _ _, K, K', h, hK => h.elim
  | .bp _, K, K', h, hK => h.elim
  | .sp _ _ _, K, K', h, hK => h.elim
  | .tup _, K, K', h, hK => h.elim
  | .any, K, K', h, hK => h.elim
theorem snaps_congr : ∀ {vs : List V} {K K' : List V → Prop}, snapsK ⟨N, t, g⟩ vs K → (∀ u, K u → K' u) → snapsK ⟨N', t', g⟩ vs K'
  | [], K, K', h, hK => hK _ h
  | v :: vs, K, K', h, hK => snap_congr (v := v) h fun u hu => snaps_congr (vs := vs) hu fun us hus => hK _ hus
end

/-- What is left of the objects, by the operation's class. -/
def Keep (c : Nat) (g g' : List (Option Obj)) : Prop := (c = 1 → LeG g g') ∧ (c = 2 → LeB g g')
theorem w_congr {K K' : V → St → Prop} (hw : wc o.op ≠ 0) (hag : ∀ x ∈ opnds o.op, ev ⟨N, t, g⟩ x = ev ⟨N', t', g⟩ x) (h : opVC Γ spec false o ⟨N, t, g⟩ K) (hK : ∀ v g', Keep (wc o.op) g g' → K v ⟨N, t, g'⟩ → K' v ⟨N', t', g'⟩) : opVC Γ spec false o ⟨N', t', g⟩ K' := by
  unfold opVC at h ⊢
  split at h <;> rename_i hop <;> (try rw [hop] at hag hw hK) <;> try (exact absurd rfl hw)
  · rename_i ti
    split at h
    · rename_i ti ht
      simp only [ht]
      exact hK _ _ ⟨fun _ => LeG.app _ _, fun h => by simp [wc] at h⟩ h
    · exact h.elim
  · rename_i ti x
    rw [← hag x (by simp [opnds])]
    split at h
    · rename_i cs hc
      rw [cellsV_any (s' := ⟨N', t', g⟩)] at hc
      simp only [hc]
      exact hK _ _ ⟨fun _ => LeG.app _ _, fun h => by simp [wc] at h⟩ h
    · exact h.elim
  · rename_i ti x y
    rw [← hag x (by simp [opnds]), ← hag y (by simp [opnds]), ← cellsV_any (s := ⟨N, t, g⟩)]
    split at h
    · rename_i i off vs ti' hx hy ht
      obtain ⟨hl, h⟩ := bifT h
      simp only [hx, hy, ht, hl, cond_true]
      cases hob : obOf g i with
      | none => rw [show St.ob ⟨N, t, g⟩ i = none from hob] at h; exact h.elim
      | some ob =>
      obtain ⟨bx, cs⟩ := ob
      rw [show St.ob ⟨N, t, g⟩ i = _ from hob] at h
      rw [show St.ob ⟨N', t', g⟩ i = _ from hob]
      cases bx with
      | true =>
        obtain ⟨hb, h⟩ := bifT h
        simp only [hb, cond_true]
        exact hK _ _ ⟨fun h => by simp [wc] at h, fun h => by simp [wc] at h⟩ h
      | false =>
        obtain ⟨hb, h⟩ := bifF h
        simp only [hb, cond_false]
        split at h
        · rename_i hfl
          obtain ⟨r, hr, cs', hcs, h⟩ := h
          exact ⟨r, hr, cs', hcs, hK _ _ ⟨fun h => by simp [wc] at h, fun h => by simp [wc] at h⟩ h⟩
        · simp only [Bool.false_and, cond_false] at h
    · rename_i i j off vs ti' hx hy ht
      obtain ⟨hl, h⟩ := bifT h
      simp only [hx, hy, ht, hl, cond_true]
      cases hob : obOf g i with
      | none => rw [show St.ob ⟨N, t, g⟩ i = none from hob] at h; exact h.elim
      | some ob =>
      obtain ⟨bx, cs⟩ := ob
      rw [show St.ob ⟨N, t, g⟩ i = _ from hob] at h
      rw [show St.ob ⟨N', t', g⟩ i = _ from hob]
      cases bx with
      | true => exact h.elim
      | false =>
        obtain ⟨sz, n, r, q, h1, h2, cs', hcs, h3⟩ := h
        exact ⟨sz, n, r, q, h1, h2, cs', hcs, hK _ _ ⟨fun h => by simp [wc] at h, fun h => by simp [wc] at h⟩ h3⟩
    · exact h.elim
  · rename_i ti len parts
    split at h
    · rename_i te ht
      obtain ⟨hb, h⟩ := bifT h
      simp only [ht, hb, cond_true]
      rw [parts_congr (s' := ⟨N', t', g⟩) (fun x hx => hag x (by simpa [opnds] using hx))] at h
      split at h
      · rename_i cs hf
        rw [fill_congr (s' := ⟨N', t', g⟩)] at hf
        simp only [hf]
        refine intos_congr h fun us g' hle h1 => hK _ _ ⟨fun h => by simp [wc] at h, fun _ => hle.trans (LeG.app _ _).b⟩ h1
      · exact h.elim
    · exact h.elim
  · rename_i ti x y
    rw [← hag x (by simp [opnds]), ← hag y (by simp [opnds])]
    split at h
    · rename_i k l k' c te hx hy ht
      obtain ⟨hb, hlc, r, hr, h⟩ := bifT h
      simp only [hx, hy, ht, hb, cond_true]
      exact ⟨hlc, r, hr, hK _ _ ⟨fun _ => LeG.app _ _, fun h => by simp [wc] at h⟩ h⟩
    · exact h.elim
  · rename_i args ts
    split at h
    · rename_i x y tt u hargs hts
      split at h
      · rename_i te e' ht hu
        obtain ⟨hb, h⟩ := bifT h
        simp only [ht, hu, hb, cond_true]
        rw [← hag y (by simp [opnds, hargs]), ← hag x (by simp [opnds, hargs])]
        cases hsb : selfB (ev ⟨N, t, g⟩ x) (ev ⟨N, t, g⟩ y) with
        | true =>
          rw [hsb] at h
          exact self_congr h fun v g' hle h1 => hK _ _ ⟨fun h => by simp [wc] at h, fun _ => hle⟩ h1
        | false =>
        rw [hsb] at h
        simp only [cond_false] at h ⊢
        refine src_congr h fun m u g' hle h1 => ?_
        revert h1
        generalize ev ⟨N, t, g⟩ x = vx
        intro h1
        split at h1
        · exact ⟨h1.1, hK _ _ ⟨fun h => by simp [wc] at h, fun _ => hle.trans (LeG.app _ _).b⟩ h1.2⟩
        · rename_i i sz n lo hi
          simp only
          cases hob : obOf g' i with
          | none => rw [show St.ob ⟨N, t, g'⟩ i = none from hob] at h1; exact h1.elim
          | some ob =>
          obtain ⟨bx, cs⟩ := ob
          rw [show St.ob ⟨N, t, g'⟩ i = _ from hob] at h1
          rw [show St.ob ⟨N', t', g'⟩ i = _ from hob]
          cases bx with
          | true => exact h1.elim
          | false =>
            obtain ⟨hb2, h2, h3, cs', hcs, h4⟩ := bifT h1
            simp only [hb2, cond_true]
            exact ⟨h2, h3, cs', hcs, hK _ _ ⟨fun h => by simp [wc] at h, fun _ => (hle.trans (LeB.put hob)).trans (LeG.app _ _).b⟩ h4⟩
        · exact h1.elim
      · exact h.elim
    · exact h.elim
  · rename_i f args ts
    have he : args.toList.map (ev ⟨N', t', g⟩) = args.toList.map (ev ⟨N, t, g⟩) := List.map_congr_left fun x hx => (hag x (by simpa [opnds] using hx)).symm
    rw [he, callsF]
    rw [callsF] at h
    refine snaps_congr h fun us hu => ?_
    obtain ⟨r, h1, h2, h3⟩ := hu
    exact ⟨r, h1, h2, h3.imp (hK _ _ ⟨fun _ => LeG.refl g, fun h => by simp [wc] at h⟩) (hK _ _ ⟨fun _ => LeG.app _ _, fun h => by simp [wc] at h⟩)⟩
  · rename_i tt args ts
    have he : args.toList.map (ev ⟨N', t', g⟩) = args.toList.map (ev ⟨N, t, g⟩) := List.map_congr_left fun x hx => (hag x (by simp only [opnds, List.mem_cons]; exact .inr hx)).symm
    have ht : lk t' tt = lk t tt := (hag (.tmp tt) (by simp [opnds])).symm
    simp only at h ⊢
    rw [ht]
    split at h
    · rw [he, callsVF]
      rw [callsVF] at h
      refine snaps_congr h fun us hu => ?_
      obtain ⟨r, h1, h2, h3⟩ := hu
      exact ⟨r, h1, h2, h3.imp (hK _ _ ⟨fun _ => LeG.refl g, fun h => by simp [wc] at h⟩) (hK _ _ ⟨fun _ => LeG.app _ _, fun h => by simp [wc] at h⟩)⟩
    · exact h.elim
  · exact h.elim
end
end Go.Proofs.YtiplgkbgkmomlaaD
