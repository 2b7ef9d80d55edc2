/- Slice expressions, and the theorem on operations that need no memory. -/
import Derived.Test.YtadhbmnpokmgcaaGreatDoorA10
namespace Go.Abs
open Go Go.RowKit

section slice
variable {P : Program} {c : Ctx} (hc : CtxOk P c) {ν : Ren} {w : World}

theorem sliceAt_of {t : TypeId} {d : TypeDesc} (hu : P.underlying t = some d) (hn : ∀ n e, d ≠ .array n e) (x : Value) (lo hi mx : Option Value) :
    (Instr.sliceAt t x lo hi mx).run P w = (Instr.slice t x lo hi mx).run P w := by
  unfold Instr.sliceAt
  rw [rb (run_underlying hu w)]
  cases d with
  | array n e => exact absurd rfl (hn n e)
  | _ => rfl

include hc in
theorem sliceOp_run {t : TypeId} {x : V} {lo hi mx : Option X} {vx : Value} {vlo vhi vmx : Option Value} {Q : V → Prop}
    (rlo : ∀ x, lo = some x → ∃ v, vlo = some v ∧ XR ν x v) (rhi : ∀ x, hi = some x → ∃ v, vhi = some v ∧ XR ν x v) (rmx : ∀ x, mx = some x → ∃ v, vmx = some v ∧ XR ν x v)
    (nlo : lo = none → vlo = none) (nhi : hi = none → vhi = none) (nmx : mx = none → vmx = none) (hx : VR ν x vx) (h : (sliceOp c t x lo hi mx).all Q) :
    ∃ r v, Q r ∧ (Instr.sliceAt t vx vlo vhi vmx).run P w = .ok v w ∧ VR ν r v := by
  unfold sliceOp at h
  obtain ⟨hg, h⟩ := (guardT_all _ _).1 h
  have hmh : mx.isSome = true → hi.isSome = true := fun e => by
    cases mx with
    | none => cases e
    | some _ => simpa using hg
  cases x with
  | str s =>
    simp only at h
    obtain ⟨i, ht, h⟩ := okO_some h
    obtain ⟨g1, h⟩ := (guardT_all _ _).1 h
    obtain ⟨g2, h⟩ := (guardT_all _ _).1 h
    rw [T.all_bind] at h
    obtain ⟨hh, h, eh⟩ := boundOf_all h
    rw [T.all_bind] at h
    obtain ⟨ll, h, el⟩ := boundOf_all h
    obtain ⟨g3, hQ⟩ := (guardT_all _ _).1 h
    simp only [Bool.and_eq_true] at g3
    have k1 := Nat.le_of_ble_eq_true g3.1
    have k2 := Nat.le_of_ble_eq_true g3.2
    obtain ⟨d, inf, z, ti⟩ := tiok hc ht
    have hd : i.d = .str := by
      cases hd : i.d <;> rw [hd] at g1 <;> first | rfl | cases g1
    have e := ti.desc_str hd
    subst e
    cases hx
    cases mx with
    | some _ => cases g2
    | none =>
      cases nmx rfl
      refine ⟨_, .string ((⟨⟨s⟩⟩ : ByteArray).extract ll hh), hQ, ?_, ?_⟩
      · rw [sliceAt_of ti.und (by simp)]
        unfold Instr.slice
        rw [rb (run_underlying ti.und w)]
        simp only [Option.isSome_none, Bool.false_eq_true, if_false]
        rw [show (⟨⟨s⟩⟩ : ByteArray).size = s.length from rfl]
        rw [rb (bounds_run (ν := ν) (mx := none) rlo rhi (by simp) nlo nhi (fun _ => rfl) (by simp) el eh (.inl ⟨rfl, rfl⟩) (Nat.le_refl _) k1 k2)]
        rfl
      · show _ = Value.string _
        rw [show (⟨⟨s⟩⟩ : ByteArray) = ByteArray.mk s.toArray from rfl, ByteArray.extract_mk, List.drop_take]
  | nils =>
    simp only at h
    obtain ⟨i, ht, h⟩ := okO_some h
    obtain ⟨d, inf, z, ti⟩ := tiok hc ht
    cases hd : i.d with
    | slice e =>
      rw [hd] at h
      simp only at h
      have e' := ti.desc_slice hd
      subst e'
      obtain ⟨ei, hei, h⟩ := okO_some h
      obtain ⟨d2, inf2, z2, ti2⟩ := tiok hc hei
      rw [T.all_bind] at h
      obtain ⟨mm, h, em⟩ := boundOf_all h
      rw [T.all_bind] at h
      obtain ⟨hh, h, eh⟩ := boundOf_all h
      rw [T.all_bind] at h
      obtain ⟨ll, h, el⟩ := boundOf_all h
      obtain ⟨g3, hQ⟩ := (guardT_all _ _).1 h
      simp only [Bool.and_eq_true] at g3
      obtain rfl : mm = 0 := Nat.eq_of_beq_eq_true g3.1.1
      obtain rfl : hh = 0 := Nat.eq_of_beq_eq_true g3.1.2
      obtain rfl : ll = 0 := Nat.eq_of_beq_eq_true g3.2
      cases hx
      refine ⟨_, .slice none 0 0, hQ, ?_, rfl⟩
      rw [sliceAt_of ti.und (by simp)]
      unfold Instr.slice
      rw [rb (run_underlying ti.und w)]
      simp only
      rw [rb (bounds_run (ν := ν) rlo rhi rmx nlo nhi nmx hmh el eh em (Nat.le_refl _) (Nat.le_refl _) (Nat.le_refl _))]
      simp only
      rw [rb (ti2.run_size w)]; rfl
    | _ => rw [hd] at h; exact h.elim
  | slice b o len cap opn =>
    simp only at h
    obtain ⟨i, ht, h⟩ := okO_some h
    obtain ⟨d, inf, z, ti⟩ := tiok hc ht
    cases hd : i.d with
    | slice e =>
      rw [hd] at h
      simp only at h
      have e' := ti.desc_slice hd
      subst e'
      obtain ⟨ei, hei, h⟩ := okO_some h
      obtain ⟨d2, inf2, z2, ti2⟩ := tiok hc hei
      obtain ⟨g0, h⟩ := (guardT_all _ _).1 h
      rw [T.all_bind] at h
      obtain ⟨mm, h, em⟩ := boundOf_all h
      rw [T.all_bind] at h
      obtain ⟨hh, h, eh⟩ := boundOf_all h
      rw [T.all_bind] at h
      obtain ⟨ll, h, el⟩ := boundOf_all h
      obtain ⟨g3, hQ⟩ := (guardT_all _ _).1 h
      simp only [Bool.and_eq_true] at g3
      have k1 := Nat.le_of_ble_eq_true g3.1.1
      have k2 := Nat.le_of_ble_eq_true g3.1.2
      have k3 := Nat.le_of_ble_eq_true g3.2
      obtain ⟨l, a, cap', hl, rfl, hlen, ha, hcap⟩ := hx
      have hcc : cap ≤ cap' := by
        split at hcap
        · omega
        · exact hcap.1
      have hopn : opn = 0 ∨ opn = ei.size := by
        cases h0 : Nat.beq opn 0 with
        | true => exact .inl (Nat.eq_of_beq_eq_true h0)
        | false => rw [h0] at g0; exact .inr (Nat.eq_of_beq_eq_true g0)
      cases mx with
      | none =>
        cases nmx rfl
        obtain ⟨-, rfl⟩ := em.resolve_right (by simp)
        refine ⟨_, .slice (if cap' = ll then some a else (some a).map (·.add (ll * ei.size))) (hh - ll) (cap' - ll), hQ, ?_, ?_⟩
        · rw [sliceAt_of ti.und (by simp)]
          unfold Instr.slice
          rw [rb (run_underlying ti.und w)]
          simp only
          rw [rb (bounds_run (ν := ν) (mx := none) (cap := cap') (m := cap') rlo rhi (by simp) nlo nhi (fun _ => rfl) (by simp) el eh (.inl ⟨rfl, rfl⟩) (Nat.le_refl _) (by omega) k3)]
          simp only
          rw [rb (ti2.run_size w)]; rfl
        · refine ⟨l, if cap' = ll then a else a.add (ll * ei.size), cap' - ll, hl, ?_, by omega, ?_, ?_⟩
          · by_cases hcl : cap' = ll <;> simp [hcl]
          · by_cases hcl : cap' = ll
            · exact .inl (by omega)
            · rcases ha with h0 | rfl
              · exact .inl (by omega)
              · rw [if_neg hcl, addr_add]
                exact .inr (by rw [Nat.add_assoc])
          · dsimp only
            by_cases ho : opn = 0
            · rw [if_pos ho] at hcap ⊢
              omega
            · rw [if_neg ho] at hcap ⊢
              obtain ⟨h1, h2⟩ := hcap
              have hs : opn = ei.size := hopn.resolve_left ho
              subst hs
              refine ⟨by omega, ?_⟩
              have : ll * ei.size + (cap' - ll) * ei.size = cap' * ei.size := by rw [← Nat.add_mul]; congr 1; omega
              omega
      | some xm =>
        obtain ⟨km, em⟩ := em.resolve_left (by simp)
        refine ⟨_, .slice (if mm = ll then some a else (some a).map (·.add (ll * ei.size))) (hh - ll) (mm - ll), hQ, ?_, ?_⟩
        · rw [sliceAt_of ti.und (by simp)]
          unfold Instr.slice
          rw [rb (run_underlying ti.und w)]
          simp only
          rw [rb (bounds_run (ν := ν) (mx := some xm) (cap := cap') rlo rhi rmx nlo nhi nmx hmh el eh (.inr ⟨km, em⟩) (by omega) k2 k3)]
          simp only
          rw [rb (ti2.run_size w)]; rfl
        · refine ⟨l, if mm = ll then a else a.add (ll * ei.size), mm - ll, hl, ?_, by omega, ?_, ?_⟩
          · by_cases hcl : mm = ll <;> simp [hcl]
          · by_cases hcl : mm = ll
            · exact .inl (by omega)
            · rcases ha with h0 | rfl
              · exact .inl (by omega)
              · rw [if_neg hcl, addr_add]
                exact .inr (by rw [Nat.add_assoc])
          · rw [if_pos rfl]
    | _ => rw [hd] at h; exact h.elim
  | ptr b o =>
    simp only at h
    obtain ⟨i, ht, h⟩ := okO_some h
    obtain ⟨d, inf, z, ti⟩ := tiok hc ht
    cases hd : i.d with
    | array n e =>
      rw [hd] at h
      simp only at h
      have e' := ti.desc_array hd
      subst e'
      obtain ⟨ei, hei, h⟩ := okO_some h
      obtain ⟨d2, inf2, z2, ti2⟩ := tiok hc hei
      rw [T.all_bind] at h
      obtain ⟨mm, h, em⟩ := boundOf_all h
      rw [T.all_bind] at h
      obtain ⟨hh, h, eh⟩ := boundOf_all h
      rw [T.all_bind] at h
      obtain ⟨ll, h, el⟩ := boundOf_all h
      obtain ⟨g3, hQ⟩ := (guardT_all _ _).1 h
      simp only [Bool.and_eq_true] at g3
      have k1 := Nat.le_of_ble_eq_true g3.1.1
      have k2 := Nat.le_of_ble_eq_true g3.1.2
      have k3 := Nat.le_of_ble_eq_true g3.2
      obtain ⟨l, hl, rfl⟩ := hx
      refine ⟨_, .slice (some (if mm = ll then ⟨l.blk, l.base + o, none⟩ else (⟨l.blk, l.base + o, none⟩ : Addr).add (ll * ei.size))) (hh - ll) (mm - ll), hQ, ?_, ?_⟩
      · unfold Instr.sliceAt
        rw [rb (run_underlying ti.und w)]
        simp only
        rw [rb (s := Instr.sureAddr (.pointer (some ⟨l.blk, l.base + o, none⟩))) (a := ⟨l.blk, l.base + o, none⟩) (w1 := w) rfl]
        rw [rb (bounds_run (ν := ν) rlo rhi rmx nlo nhi nmx hmh el eh em k1 k2 k3)]
        simp only
        rw [rb (ti2.run_size w)]; rfl
      · refine ⟨l, _, mm - ll, hl, rfl, by omega, ?_, by rw [if_pos rfl]⟩
        by_cases hcl : mm = ll
        · exact .inl (by omega)
        · rw [if_neg hcl, addr_add]
          exact .inr (by rw [Nat.add_assoc])
    | _ => rw [hd] at h; exact h.elim
  | _ => exact h.elim
end slice
end Go.Abs
