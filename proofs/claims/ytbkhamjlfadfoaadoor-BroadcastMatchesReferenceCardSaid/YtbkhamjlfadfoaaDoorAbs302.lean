/- Joined: AbsH AbsI AbsJ AbsK AbsL AbsM AbsN AbsO. -/
import Derived.Test.YtbkhamjlfadfoaaDoorAbs301
set_option linter.all false
set_option maxHeartbeats 16000000
noncomputable section
namespace Go.Abs
open Go
theorem frzL_eq (pm : Bool) (l : List V) : frzL pm l = l.map (frz pm) := by
 induction l with
 | nil => rfl
 | cons x l ih => simp [frzL, ih]
mutual
theorem noRow_frz (pm : Bool) : ∀ x : V, noRow (frz pm x) = true
 | .own d k n cs => rfl
 | .agg cs => by simp only [frz, noRow]; exact noRowL_frz pm cs
 | .tup cs => by simp only [frz, noRow]; exact noRowL_frz pm cs
 | .fn f a b => by simp only [frz, noRow, noRowL_frz pm a, noRowL_frz pm b, Bool.and_self]
 | .dead | .int _ _ | .bool _ | .nilp | .nilf | .bptr _ _ | .ip _ _ _ | .im _ _ _ _ _ | .ref _ _ | .loc _ _ => rfl
theorem noRowL_frz (pm : Bool) : ∀ l : List V, noRowL (frzL pm l) = true
 | [] => rfl
 | v :: l => by simp only [frzL, noRowL, noRow_frz pm v, noRowL_frz pm l, Bool.and_self]
end
def ZeroOk : V → Prop
 | .own d _ n _ => match d with | .blk _ _ _ => True | _ => n = 0
 | _ => True
mutual
theorem hd_frz (β : Nat → Nat) (pm : Bool) : ∀ {x : V}, (∀ e ∈ rows x, match e.1 with | .blk _ _ _ => True | _ => e.2.2.1 = 0) → hd β (frz pm x) = hd β x
 | .own d k n cs, h => by
   have h0 := h (d, k, n, cs.map sh) (by simp [rows])
   cases d with
   | nil => simp only at h0; subst h0; rfl
   | emp A => simp only at h0; subst h0; rfl
   | blk g cap kk => rfl
 | .fn f a b, h => by
   have ha := hdL_frz β pm (l := a) (fun e he => h e (by simp [rows, he]))
   have hb := hdL_frz β pm (l := b) (fun e he => h e (by simp [rows, he]))
   simp only [frz, hd, ha, hb]
 | .dead, _ | .int _ _, _ | .bool _, _ | .nilp, _ | .nilf, _ | .bptr _ _, _ | .ip _ _ _, _ | .im _ _ _ _ _, _ | .ref _ _, _ | .loc _ _, _ | .agg _, _ | .tup _, _ => rfl
theorem hdL_frz (β : Nat → Nat) (pm : Bool) : ∀ {l : List V}, (∀ e ∈ rowsL l, match e.1 with | .blk _ _ _ => True | _ => e.2.2.1 = 0) → hdL β (frzL pm l) = hdL β l
 | [], _ => rfl
 | v :: l, h => by
   have h1 := hd_frz β pm (x := v) (fun e he => h e (by simp [rowsL, he]))
   have h2 := hdL_frz β pm (l := l) (fun e he => h e (by simp [rowsL, he]))
   simp only [frzL, hdL, h1, h2]
end
theorem RowOk.zero {E : Env} {w : World} {e : RowE} (h : RowOk E w e) : match e.1 with | .blk _ _ _ => True | _ => e.2.2.1 = 0 := by
 obtain ⟨d, k, n, cs⟩ := e
 cases d with
 | nil => exact h.1
 | emp A => exact h.1
 | blk g cap kk => trivial
theorem MR_frz {E : Env} {w : World} {pm : Bool} {x : V} {u : Value} (h : ∀ e ∈ rows x, RowOk E w e) (hm : MR E.β x u) : MR E.β (frz pm x) u := by
 rcases hm with hm | rfl
 ·exact .inl (by rw [hd_frz E.β pm (fun e he => (h e he).zero)]; exact hm)
 ·exact .inr rfl
theorem rowsL_mem_of {l : List V} {x : V} (h : x ∈ l) {e : RowE} (he : e ∈ rows x) : e ∈ rowsL l := by
 induction l with
 | nil => cases h
 | cons y l ih =>
   rcases List.mem_cons.1 h with rfl | h
   ·exact List.mem_append_left _ he
   ·exact List.mem_append_right _ (ih h)
theorem noRowL_mem {l : List V} (h : noRowL l = true) {x : V} (hx : x ∈ l) : noRow x = true := by
 obtain ⟨i, hi⟩ := List.getElem?_of_mem hx
 exact noRowL_get h hi
theorem keysOf_tail {e : RowE} {l : List RowE} {k : Nat} (h : k ∈ keysOf l) : k ∈ keysOf (e :: l) := by
 obtain ⟨x, hx, hk⟩ := List.mem_filterMap.1 h
 exact List.mem_filterMap.2 ⟨x, List.mem_cons_of_mem _ hx, hk⟩
theorem FOk.frz_ {E E' : Env} {w : World} {K K' : Nat → Prop} {pm pm0 : Bool} (hg : ∀ pm0 k, (pm = true → pm0 = true) → E.good pm0 k → ¬ K k → E'.good pm k ∧ ¬ K' k) (hβ : E'.β = E.β) (hp : pm = true → pm0 = true) {A : Addr} {cs : List V}
 (h : FOk E w K pm0 A cs) : FOk E' w K' pm A (frzL pm cs) := by
 refine ⟨noRowL_frz pm cs, fun j x hx => ?_, fun hc => ?_⟩
 ·rw [frzL_eq, List.getElem?_map, Option.map_eq_some_iff] at hx
  obtain ⟨z, hz, rfl⟩ := hx
  obtain ⟨u, hu, hm⟩ := h.2.1 j z hz
  refine ⟨u, hu, ?_⟩
  rw [hβ]
  exact MR_frz (E := E) (w := w) (by rw [rows_noRow (noRowL_get h.1 hz)]; intro e he; cases he) hm
 ·have hc' : cs ≠ [] := fun e => hc (by rw [e]; rfl)
  exact hg pm0 _ hp (h.2.2 hc').1 (h.2.2 hc').2
mutual
theorem frz_atoms {E E' : Env} {w : World} {nx : Nat} {K K' : Nat → Prop} {pm : Bool} (hg : ∀ pm0 k, (pm = true → pm0 = true) → E.good pm0 k → ¬ K k → E'.good pm k ∧ ¬ K' k) (hβ : E'.β = E.β) :
 ∀ (x : V), (∀ e ∈ rows x, RowOk E w e) → (∀ k ∈ keysOf (rows x), E'.good pm k ∧ ¬ K' k) → (∀ a ∈ atoms x, AtOk E w nx K a) → (pm = true → noBor x = true) → ∀ a ∈ atoms (frz pm x), AtOk E' w nx K' a
 | .own d k n cs, hr, hk, ha, hp, a, hm => by
   have hr' : ∀ e ∈ rowsL cs, RowOk E w e := fun e he => hr e (by simp [rows, he])
   have ih := frzL_atoms hg hβ cs hr' (fun k hk' => hk k (keysOf_tail hk')) ha (fun h => by simpa [noBor] using hp h)
   simp only [frz, atoms] at hm
   rcases List.mem_cons.1 hm with rfl | hm
   ·have h0 := hr (d, k, n, cs.map sh) (by simp [rows])
    cases d with
    | nil =>
      have : cs = [] := by have := h0.2; simpa using this
      subst this
      exact ⟨by have := h0.1; omega, h0.1, rfl⟩
    | emp A =>
      have : cs = [] := by have := h0.2; simpa using this
      subst this
      refine ⟨by have := h0.1; omega, rfl, fun j x hx => by simp [frzL] at hx, fun h => absurd rfl h⟩
    | blk g cap kk =>
      obtain ⟨q1, q2, q3, q4, q5, cur, el, q6, q7, q8⟩ := h0
      refine ⟨q1, noRowL_frz pm cs, fun j x hx => ?_, fun _ => ?_⟩
      ·rw [frzL_eq, List.getElem?_map, Option.map_eq_some_iff] at hx
       obtain ⟨z, hz, rfl⟩ := hx
       obtain ⟨u, hu, hm'⟩ := q8 j (sh z) (by rw [List.getElem?_map, hz]; rfl)
       refine ⟨u, ?_, ?_⟩
       ·have : (⟨g, 0, none⟩ : Addr).add j = ⟨g, j, none⟩ := by unfold Addr.add; split <;> simp_all
        rw [this]
        simp only [World.cell?, q6]
        simpa using hu
       ·rw [hβ]
        exact MR_frz (E := E) (w := w) (fun e he => hr' e (rowsL_mem_of (List.mem_of_getElem? hz) he)) (MR_sh.1 hm')
      ·exact hk g (by simp [rows, keysOf, keyOf])
   ·exact ih a hm
 | .im pm0 A cap n cs, hr, hk, ha, hp, a, hm => by
   have h0 := ha (.i pm0 A cap n cs) (by simp [atoms])
   have hpm : pm = true → pm0 = true := fun h => by have := hp h; simp only [noBor, Bool.and_eq_true] at this; exact this.1
   simp only [frz, atoms] at hm
   rcases List.mem_cons.1 hm with rfl | hm2
   ·refine ⟨h0.1, ?_⟩
    have h2 := h0.2
    cases A with
    | none => exact ⟨h2.1, by rw [h2.2]; rfl⟩
    | some a0 => exact FOk.frz_ hg hβ hpm h2
   ·cases A with
    | none =>
      rw [h0.2.2] at hm2; simp [frzL, atomsL] at hm2
    | some a0 =>
      exact frzL_atoms hg hβ cs (by rw [rowsL_noRow h0.2.1]; intro e he; cases he) (by rw [rowsL_noRow h0.2.1]; intro k hk'; cases hk') (fun b hb => ha b (by simp [atoms, hb])) (fun h => by have := hp h; simp only [noBor, Bool.and_eq_true] at this; exact this.2) a hm2
 | .ip pm0 A cs, hr, hk, ha, hp, a, hm => by
   have h0 := ha (.f pm0 A cs) (by simp [atoms])
   have hpm : pm = true → pm0 = true := fun h => by have := hp h; simp only [noBor, Bool.and_eq_true] at this; exact this.1
   simp only [frz, atoms] at hm
   rcases List.mem_cons.1 hm with rfl | hm
   ·exact FOk.frz_ hg hβ hpm h0
   ·exact frzL_atoms hg hβ cs (by rw [rowsL_noRow h0.1]; intro e he; cases he) (by rw [rowsL_noRow h0.1]; intro k hk'; cases hk') (fun b hb => ha b (by simp [atoms, hb])) (fun h => by have := hp h; simp only [noBor, Bool.and_eq_true] at this; exact this.2) a hm
 | .agg cs, hr, hk, ha, hp, a, hm => frzL_atoms hg hβ cs hr hk ha (fun h => by simpa [noBor] using hp h) a hm
 | .tup cs, hr, hk, ha, hp, a, hm => frzL_atoms hg hβ cs hr hk ha (fun h => by simpa [noBor] using hp h) a hm
 | .fn f l1 l2, hr, hk, ha, hp, a, hm => by
   simp only [frz, atoms] at hm
   rcases List.mem_append.1 hm with hm | hm
   ·exact frzL_atoms hg hβ l1 (fun e he => hr e (by simp [rows, he])) (fun k hk' => hk k (by simp only [rows, keysOf_append]; exact List.mem_append_left _ hk')) (fun b hb => ha b (by simp [atoms, hb])) (fun h => by have := hp h; simp only [noBor, Bool.and_eq_true] at this; exact this.1) a hm
   ·exact frzL_atoms hg hβ l2 (fun e he => hr e (by simp [rows, he])) (fun k hk' => hk k (by simp only [rows, keysOf_append]; exact List.mem_append_right _ hk')) (fun b hb => ha b (by simp [atoms, hb])) (fun h => by have := hp h; simp only [noBor, Bool.and_eq_true] at this; exact this.2) a hm
 | .bptr b o, hr, hk, ha, hp, a, hm => by
   simp only [frz, atoms, List.mem_singleton] at hm; subst hm
   exact ha (.p b) (by simp [atoms])
 | .dead, _, _, _, _, a, hm | .int _ _, _, _, _, _, a, hm | .bool _, _, _, _, _, a, hm | .nilp, _, _, _, _, a, hm | .nilf, _, _, _, _, a, hm | .ref _ _, _, _, _, _, a, hm | .loc _ _, _, _, _, _, a, hm => by
   simp [frz, atoms] at hm
theorem frzL_atoms {E E' : Env} {w : World} {nx : Nat} {K K' : Nat → Prop} {pm : Bool} (hg : ∀ pm0 k, (pm = true → pm0 = true) → E.good pm0 k → ¬ K k → E'.good pm k ∧ ¬ K' k) (hβ : E'.β = E.β) :
 ∀ (l : List V), (∀ e ∈ rowsL l, RowOk E w e) → (∀ k ∈ keysOf (rowsL l), E'.good pm k ∧ ¬ K' k) → (∀ a ∈ atomsL l, AtOk E w nx K a) → (pm = true → noBorL l = true) → ∀ a ∈ atomsL (frzL pm l), AtOk E' w nx K' a
 | [], _, _, _, _, a, hm => by simp [frzL, atomsL] at hm
 | v :: l, hr, hk, ha, hp, a, hm => by
   simp only [frzL, atomsL] at hm
   rcases List.mem_append.1 hm with hm | hm
   ·exact frz_atoms hg hβ v (fun e he => hr e (by simp [rowsL, he])) (fun k hk' => hk k (by simp only [rowsL, keysOf_append]; exact List.mem_append_left _ hk')) (fun b hb => ha b (by simp [atomsL, hb])) (fun h => by have := hp h; simp only [noBorL, Bool.and_eq_true] at this; exact this.1) a hm
   ·exact frzL_atoms hg hβ l (fun e he => hr e (by simp [rowsL, he])) (fun k hk' => hk k (by simp only [rowsL, keysOf_append]; exact List.mem_append_right _ hk')) (fun b hb => ha b (by simp [atomsL, hb])) (fun h => by have := hp h; simp only [noBorL, Bool.and_eq_true] at this; exact this.2) a hm
end
theorem Inv.weaken2 {E : Env} {nt nt' : Nat} {D D' : St} {ex ex' : List V} {w : World} (h : Inv E nt D ex w) (S R R' : List RowE) (hS : (rowsD nt D ex).Perm (S ++ R)) (hR : RLeL E.β R' R) (hS' : (rowsD nt' D' ex').Perm R')
 (ha : ∀ a ∈ atomsD nt' D' ex', a ∈ atomsD nt D ex ∨ ((∀ k, k ∈ keysD nt' D' ex' → k ∈ keysD nt D ex) → (∀ k, k ∈ keysOf S → k ∉ keysD nt' D' ex') → AtOk E w D'.nx (fun k => k ∈ keysD nt' D' ex') a))
 (hm : ∀ e' ∈ D'.m, ∃ e ∈ D.m, e.2.g = e'.2.g ∧ e.1 = e'.1) (hi : (D'.m.map (·.1)).Nodup) (hx : D'.nx = D.nx) : Inv E nt' D' ex' w := by
 have hk : ∀ k, k ∈ keysD nt' D' ex' → k ∈ keysD nt D ex := by
  intro k hk
  have h1 := (keysOf_perm hS').mem_iff.1 hk
  rw [hR.keys] at h1
  exact (keysOf_perm hS).mem_iff.2 (by rw [keysOf_append]; exact List.mem_append_right _ h1)
 have hn := (keysOf_perm hS).nodup_iff.1 h.nodup
 rw [keysOf_append] at hn
 have hk2 : ∀ k, k ∈ keysOf S → k ∉ keysD nt' D' ex' := by
  intro k h1 h2
  have h3 := (keysOf_perm hS').mem_iff.1 h2
  rw [hR.keys] at h3
  exact (List.nodup_append.1 hn).2.2 k h1 k h3 rfl
 refine ⟨fun e he => ?_, ?_, fun a haa => ?_, fun e' he' => ?_, hi, fun k hkk => h.keysG k (hk k hkk), h.newG, h.gpb⟩
 ·obtain ⟨e0, he0, hle⟩ := hR.mem (hS'.mem_iff.1 he)
  exact (h.rows e0 (hS.mem_iff.2 (List.mem_append_right _ he0))).le hle
 ·refine (keysOf_perm hS').nodup_iff.2 ?_
  rw [hR.keys]
  exact (List.nodup_append.1 hn).2.1
 ·rcases ha a haa with h1 | h1
  ·exact (h.atoms a h1).mono (by rw [hx]; exact Nat.le_refl _) hk
  ·exact h1 hk hk2
 ·obtain ⟨e, he, h1, h2⟩ := hm e' he'
  have := h.boxes e he
  rw [← h1, ← h2, hx]; exact this
mutual
theorem rows_sub (r : Root) (p : List Nat) {x : V} (hx : noRow x = true) : ∀ v : V, rows (sub r p x v) = rows v
 | .ref r' q' => by simp only [sub]; split; exact (rows_noRow hx).trans rfl; rfl
 | .agg l => rowsL_sub r p hx l
 | .tup l => rowsL_sub r p hx l
 | .fn f a b => by simp only [sub, rows, rowsL_sub r p hx a, rowsL_sub r p hx b]
 | .loc _ _ | .dead | .int _ _ | .bool _ | .nilp | .nilf | .bptr _ _ | .ip _ _ _ | .im _ _ _ _ _ | .own _ _ _ _ => rfl
theorem rowsL_sub (r : Root) (p : List Nat) {x : V} (hx : noRow x = true) : ∀ l : List V, rowsL (subL r p x l) = rowsL l
 | [] => rfl
 | v :: l => by simp only [subL, rowsL, rows_sub r p hx v, rowsL_sub r p hx l]
end
mutual
theorem atoms_sub (r : Root) (p : List Nat) {x : V} {b : At} : ∀ v : V, b ∈ atoms (sub r p x v) → b ∈ atoms x ∨ b ∈ atoms v
 | .ref r' q', h => by
   simp only [sub] at h
   split at h
   ·exact .inl h
   ·exact .inr h
 | .agg l, h => atomsL_sub r p l h
 | .tup l, h => atomsL_sub r p l h
 | .fn f a c, h => by
   simp only [sub, atoms] at h ⊢
   rcases List.mem_append.1 h with h | h
   ·exact (atomsL_sub r p a h).imp id (List.mem_append_left _)
   ·exact (atomsL_sub r p c h).imp id (List.mem_append_right _)
 | .loc _ _, h | .dead, h | .int _ _, h | .bool _, h | .nilp, h | .nilf, h | .bptr _ _, h | .ip _ _ _, h | .im _ _ _ _ _, h | .own _ _ _ _, h => .inr h
theorem atomsL_sub (r : Root) (p : List Nat) {x : V} {b : At} : ∀ l : List V, b ∈ atomsL (subL r p x l) → b ∈ atoms x ∨ b ∈ atomsL l
 | [], h => .inr h
 | v :: l, h => by
   simp only [subL, atomsL] at h ⊢
   rcases List.mem_append.1 h with h | h
   ·exact (atoms_sub r p v h).imp id (List.mem_append_left _)
   ·exact (atomsL_sub r p l h).imp id (List.mem_append_right _)
end
mutual
theorem sub_mild (r : Root) (p : List Nat) {x : V} (hx : noRow x = true) : ∀ (v : V) (q : List Nat) (d : Dec) (k n : Nat) (cs : List V), go q (sub r p x v) = some (.own d k n cs) → go q v = some (.own d k n cs)
 | .ref r' q', q, d, k, n, cs, h => by
   simp only [sub] at h
   split at h
   ·have := go_noRow q x _ hx h; simp [noRow] at this
   ·exact h
 | .agg l, q, d, k, n, cs, h => by
   cases q with
   | nil => simp [sub, go] at h
   | cons o q => simp only [sub, go] at h ⊢; exact subL_mild r p hx l o q d k n cs h
 | .tup l, q, d, k, n, cs, h => by
   cases q with
   | nil => simp [sub, go] at h
   | cons o q => simp only [sub, go] at h ⊢; exact subL_mild r p hx l o q d k n cs h
 | .fn f a b, q, d, k, n, cs, h => by cases q <;> simp [sub, go] at h
 | .loc _ _, q, d, k, n, cs, h | .dead, q, d, k, n, cs, h | .int _ _, q, d, k, n, cs, h | .bool _, q, d, k, n, cs, h | .nilp, q, d, k, n, cs, h | .nilf, q, d, k, n, cs, h | .bptr _ _, q, d, k, n, cs, h | .ip _ _ _, q, d, k, n, cs, h
 | .im _ _ _ _ _, q, d, k, n, cs, h | .own _ _ _ _, q, d, k, n, cs, h => h
theorem subL_mild (r : Root) (p : List Nat) {x : V} (hx : noRow x = true) : ∀ (l : List V) (o : Nat) (q : List Nat) (d : Dec) (k n : Nat) (cs : List V),
 (match (subL r p x l)[o]? with | some y => go q y | none => none) = some (.own d k n cs) → (match l[o]? with | some y => go q y | none => none) = some (.own d k n cs)
 | [], o, q, d, k, n, cs, h => by simp [subL] at h
 | v :: l, 0, q, d, k, n, cs, h => by simp only [subL, List.getElem?_cons_zero] at h ⊢; exact sub_mild r p hx v q d k n cs h
 | v :: l, o + 1, q, d, k, n, cs, h => by simp only [subL, List.getElem?_cons_succ] at h ⊢; exact subL_mild r p hx l o q d k n cs h
end
mutual
theorem PR_sub {β : Nat → Nat} {D : St} {r : Root} {p : List Nat} {x : V} (hx : ∀ u, PR β D (.ref r p) u → PR β D x u) : ∀ {v : V} {u : Value}, PR β D v u → PR β D (sub r p x v) u
 | .ref r' q, u, h => by
   simp only [sub]
   split
   ·rename_i e; obtain ⟨rfl, rfl⟩ := e; exact hx u h
   ·exact h
 | .agg cs, u, h => by obtain ⟨us, rfl, hl⟩ := h; exact ⟨us, rfl, PRL_sub hx hl⟩
 | .tup cs, u, h => by obtain ⟨us, rfl, hl⟩ := h; exact ⟨us, rfl, PRL_sub hx hl⟩
 | .fn f a b, u, h => by obtain ⟨ua, ub, rfl, ha, hb⟩ := h; exact ⟨ua, ub, rfl, PRL_sub hx ha, PRL_sub hx hb⟩
 | .dead, _, _ => trivial
 | .loc _ _, _, h | .int _ _, _, h | .bool _, _, h | .nilp, _, h | .nilf, _, h | .bptr _ _, _, h | .ip _ _ _, _, h | .im _ _ _ _ _, _, h | .own _ _ _ _, _, h => h
theorem PRL_sub {β : Nat → Nat} {D : St} {r : Root} {p : List Nat} {x : V} (hx : ∀ u, PR β D (.ref r p) u → PR β D x u) : ∀ {l : List V} {us : List Value}, PRL β D l us → PRL β D (subL r p x l) us
 | [], us, h => h
 | v :: l, us, h => by obtain ⟨u, us', rfl, h1, h2⟩ := h; exact ⟨u, us', rfl, PR_sub hx h1, PRL_sub hx h2⟩
end
theorem slotRows_map {nt : Nat} {s : Nat → V} {f : V → V} (h : ∀ v, rows (f v) = rows v) : slotRows nt (fun i => f (s i)) = slotRows nt s := by
 unfold slotRows; congr 1; funext t; exact h _
theorem slotAtoms_map {nt : Nat} {s : Nat → V} {f : V → V} {P : At → Prop} (h : ∀ v b, b ∈ atoms (f v) → P b ∨ b ∈ atoms v) {b : At} (hb : b ∈ slotAtoms nt (fun i => f (s i))) : P b ∨ b ∈ slotAtoms nt s := by
 obtain ⟨t, ht, hb⟩ := List.mem_flatMap.1 hb
 exact (h _ _ hb).imp id fun h => List.mem_flatMap.2 ⟨t, ht, h⟩
theorem PR_frz_own {E : Env} {w : World} {D : St} {pm : Bool} {d : Dec} {k n : Nat} {cs : List V} (h : RowOk E w (d, k, n, cs.map sh)) {u : Value} (hu : hd E.β (.own d k n cs) = some u) : PR E.β D (frz pm (.own d k n cs)) u := by
 cases d with
 | nil => have := h.1; subst this; simp only [hd, Option.some.injEq] at hu; exact hu.symm
 | emp A => have := h.1; subst this; simp only [hd, Option.some.injEq] at hu; exact hu.symm
 | blk g cap kk => simp only [hd, Option.some.injEq] at hu; exact hu.symm
theorem row_of_look {nt : Nat} {D : St} {ex : List V} {r : Root} {p : List Nat} {x : V} (hr : ∀ t, r = .slot t → t < nt) (h : look D r p = some x) {e : RowE} (he : e ∈ rows x) : ∃ R, (rowsD nt D ex).Perm (rows x ++ R) := by
 obtain ⟨R, _, _, h1, _⟩ := rows_setAt (β := fun _ => 0) (ex := ex) (y := x) h hr (fun _ h => h)
 exact ⟨R, h1⟩
mutual
theorem sub_look (r : Root) (p : List Nat) {x : V} : ∀ (v : V) (q : List Nat) (d : Dec) (k n : Nat) (cs : List V), go q v = some (.own d k n cs) → go q (sub r p x v) = some (.own d k n cs)
 | .ref r' q', q, d, k, n, cs, h => by cases q <;> simp [go] at h
 | .agg l, q, d, k, n, cs, h => by
   cases q with
   | nil => simp [go] at h
   | cons o q => simp only [sub, go] at h ⊢; exact subL_look r p l o q d k n cs h
 | .tup l, q, d, k, n, cs, h => by
   cases q with
   | nil => simp [go] at h
   | cons o q => simp only [sub, go] at h ⊢; exact subL_look r p l o q d k n cs h
 | .fn f a b, q, d, k, n, cs, h => by cases q <;> simp [go] at h
 | .loc _ _, q, d, k, n, cs, h | .dead, q, d, k, n, cs, h | .int _ _, q, d, k, n, cs, h | .bool _, q, d, k, n, cs, h | .nilp, q, d, k, n, cs, h | .nilf, q, d, k, n, cs, h | .bptr _ _, q, d, k, n, cs, h | .ip _ _ _, q, d, k, n, cs, h
 | .im _ _ _ _ _, q, d, k, n, cs, h | .own _ _ _ _, q, d, k, n, cs, h => h
theorem subL_look (r : Root) (p : List Nat) {x : V} : ∀ (l : List V) (o : Nat) (q : List Nat) (d : Dec) (k n : Nat) (cs : List V),
 (match l[o]? with | some y => go q y | none => none) = some (.own d k n cs) → (match (subL r p x l)[o]? with | some y => go q y | none => none) = some (.own d k n cs)
 | [], o, q, d, k, n, cs, h => by simp at h
 | v :: l, 0, q, d, k, n, cs, h => by simp only [subL, List.getElem?_cons_zero] at h ⊢; exact sub_look r p v q d k n cs h
 | v :: l, o + 1, q, d, k, n, cs, h => by simp only [subL, List.getElem?_cons_succ] at h ⊢; exact subL_look r p l o q d k n cs h
end
theorem takeF_ok {E : Env} {nt : Nat} {D D2 : St} {ex : List V} {w : World} {a : Act} {r : Root} {p : List Nat} {x : V} (hI : Inv E nt D ex w) (hS : SlotsOk E nt D a)
 (h : takeF D r p = some (x, D2)) : Inv E nt D2 (x :: ex) w ∧ SlotsOk E nt D2 a ∧ Kept D D2 ∧ D2.nx = D.nx ∧ (∀ k, k ∈ keysD nt D2 (x :: ex) → k ∈ keysD nt D ex) ∧ ∃ d k n cs, look D r p = some (.own d k n cs) ∧ x = frz (noBorL cs) (.own d k n cs) ∧ (∀ u, hd E.β (.own d k n cs) = some u → hd E.β x = some u) := by
 unfold takeF at h
 cases hl : look D r p with
 | none => simp [hl] at h
 | some y =>
   cases y <;> simp only [hl, Option.some.injEq, Prod.mk.injEq, reduceCtorEq] at h
   rename_i d k n cs
   have hr := hS.lt hl
   obtain ⟨hxe, hD2⟩ := h
   rw [hxe] at hD2
   have hpx : noRow x = true := by rw [← hxe]; exact noRow_frz _ _
   obtain ⟨R0, hR0⟩ := row_of_look (ex := ex) hr hl (e := (d, k, n, cs.map sh)) (by simp [rows])
   have hrow : RowOk E w (d, k, n, cs.map sh) := hI.rows _ (hR0.mem_iff.2 (List.mem_append_left _ (by simp [rows])))
   have hmr : ∀ u, MR E.β (.own d k n cs) u → MR E.β x u := fun u hu => by
    rw [← hxe]; exact MR_frz (E := E) (w := w) (fun e he => hI.rows e (hR0.mem_iff.2 (List.mem_append_left _ he))) hu
   have hpr : ∀ D0 u, hd E.β (.own d k n cs) = some u → PR E.β D0 x u := fun D0 u hu => by rw [← hxe]; exact PR_frz_own hrow hu
   obtain ⟨D1, hD1⟩ : ∃ D1 : St, D1 = { D with s := fun i => sub r p x (D.s i) } := ⟨_, rfl⟩
   have hk1 : Kept D D1 := by rw [hD1]; exact mild_kept (f := sub r p x) (fun v q d k n cs => sub_mild r p hpx v q d k n cs)
   have hS1 : SlotsOk E nt D1 a := ⟨hS.size, hS.defers, fun t => by
    have : D1.s t = sub r p x (D.s t) := by rw [hD1]
    rw [this]
    exact PR_kept hk1 (PR_sub (fun u hu => hpr D u (hu d k n cs hl)) (hS.slot t)), fun t ht => by rw [hD1]; simp only [hS.high t ht, sub]⟩
   have hl1 : look D1 r p = some (.own d k n cs) := by
    rw [hD1]
    cases r with
    | slot t => exact sub_look _ _ _ _ _ _ _ _ hl
    | box b => exact hl
   have hm1 : D1.m = D.m := by rw [hD1]
   have hn1 : D1.nx = D.nx := by rw [hD1]
   have hrows1 : rowsD nt D1 ex = rowsD nt D ex := by
    rw [hD1]; unfold rowsD; rw [slotRows_map (f := sub r p x) (rows_sub r p hpx)]
   have hat1 : ∀ b, b ∈ atomsD nt D1 ex → b ∈ atoms x ∨ b ∈ atomsD nt D ex := by
    intro b hb
    rw [hD1] at hb
    unfold atomsD at hb ⊢
    rcases List.mem_append.1 hb with hb | hb
    ·exact (slotAtoms_map (f := sub r p x) (P := fun b => b ∈ atoms x) (fun v b => atoms_sub r p v) hb).imp id (List.mem_append_left _)
    ·exact .inr (List.mem_append_right _ hb)
   rw [← hD1] at hD2
   obtain ⟨R, R', hR, h1, h2⟩ := rows_setAt (β := E.β) (ex := ex) (y := x) hl1 hr hmr
   obtain ⟨m1, m2, m3⟩ := setAt_m D1 r p x
   rw [hD2] at h2 m1 m2 m3
   have hk2 : Kept D1 D2 := by rw [← hD2]; exact (setAt_turned hl1).2 hpx
   have hS2 : SlotsOk E nt D2 a := by rw [← hD2]; exact hS1.setAt hr hl1 hpx (fun u hu => hpr D1 u hu)
   rw [hrows1] at h1
   have hp2 : (rowsD nt D2 (x :: ex)).Perm R' := by
    refine (rowsD_ex _ _ _ _).trans ?_
    rw [rows_noRow hpx, List.nil_append]
    refine h2.trans ?_
    rw [rows_noRow hpx, List.nil_append]
   have hI2 : Inv E nt D2 (x :: ex) w := by
    refine hI.weaken2 (rows (.own d k n cs)) R R' h1 hR hp2 ?_ (by rw [← hm1]; exact m3) (by rw [m2, hm1]; exact hI.ids) (m1.trans hn1)
    ·intro b hb
     have hb' : b ∈ atoms x ∨ b ∈ atomsD nt D ex := by
      rcases atomsD_ex.1 hb with hb | hb
      ·exact .inl hb
      ·rw [← hD2] at hb
       rcases atoms_setAt hr hb with hb | hb
       ·exact .inl hb
       ·exact hat1 b hb
     rcases hb' with hb | hb
     ·refine .inr fun hK hK2 => ?_
      rw [← hxe] at hb
      refine (frz_atoms (E := E) (E' := E) (w := w) (nx := D.nx) (K := fun k => k ∈ keysD nt D ex) (K' := fun k => k ∈ keysD nt D2 (x :: ex)) (pm := noBorL cs) ?_ rfl (.own d k n cs) ?_ ?_ ?_ ?_ b hb).mono (by rw [m1, hn1]; exact Nat.le_refl _) (fun k h => h)
      ·intro pm0 k hp hg hk
       refine ⟨?_, fun h => hk (hK k h)⟩
       unfold Env.good at hg ⊢
       cases hpm : noBorL cs with
       | true => rw [hp hpm] at hg; simpa using hg
       | false =>
         cases pm0 with
         | true => simpa using hI.gpb k (by simpa using hg)
         | false => simpa using hg
      ·exact fun e he => hI.rows e (hR0.mem_iff.2 (List.mem_append_left _ he))
      ·intro k hk
       refine ⟨?_, hK2 k hk⟩
       have hG := hI.keysG k ((keysOf_perm hR0).mem_iff.2 (by rw [keysOf_append]; exact List.mem_append_left _ hk))
       unfold Env.good
       split
       ·exact hG
       ·exact hI.gpb k hG
      ·exact fun c hc => hI.atoms c (atoms_look hr hl hc)
      ·exact fun h => by simpa [noBor] using h
     ·exact .inl hb
   refine ⟨hI2, hS2, hk1.trans hk2, m1.trans hn1, keys_sub h1 hR hp2, d, k, n, cs, rfl, hxe.symm, fun u hu => ?_⟩
   rw [← hxe, hd_frz E.β _ (fun e he => (hI.rows e (hR0.mem_iff.2 (List.mem_append_left _ he))).zero)]; exact hu
def VOk (E : Env) (nt : Nat) (D : St) (ex : List V) (w : World) (v : V) : Prop := ∀ a ∈ atoms v, AtOk E w D.nx (fun k => k ∈ keysD nt D ex) a
theorem Inv.join {E : Env} {nt : Nat} {D : St} {ex : List V} {w : World} (h : Inv E nt D ex w) {v : V} (hv : ∀ e ∈ Abs.rows v, RowOk E w e ∧ keyOf e = none) (ha : VOk E nt D ex w v) : Inv E nt D (v :: ex) w := by
 have hp := rowsD_ex nt D v ex
 have hk : keysOf (Abs.rows v) = [] := by
  unfold keysOf
  rw [List.filterMap_eq_nil_iff]
  exact fun e he => (hv e he).2
 have hkey : ∀ k, k ∈ keysD nt D (v :: ex) ↔ k ∈ keysD nt D ex := by
  intro k
  rw [show keysD nt D (v :: ex) = keysOf (rowsD nt D (v :: ex)) from rfl, (keysOf_perm hp).mem_iff, keysOf_append, hk]
  rfl
 refine ⟨fun e he => ?_, ?_, fun a haa => ?_, h.boxes, h.ids, fun k hkk => h.keysG k ((hkey k).1 hkk), h.newG, h.gpb⟩
 ·rcases List.mem_append.1 (hp.mem_iff.1 he) with h1 | h1
  ·exact (hv e h1).1
  ·exact h.rows e h1
 ·refine (keysOf_perm hp).nodup_iff.2 ?_
  rw [keysOf_append, hk]
  exact h.nodup
 ·rcases atomsD_ex.1 haa with h1 | h1
  ·exact (ha a h1).mono (Nat.le_refl _) (fun k => (hkey k).1)
  ·exact (h.atoms a h1).mono (Nat.le_refl _) (fun k => (hkey k).1)
theorem Inv.drop {E : Env} {nt : Nat} {D : St} {v : V} {ex : List V} {w : World} (h : Inv E nt D (v :: ex) w) : Inv E nt D ex w :=
 h.weaken (Abs.rows v) (rowsD nt D ex) (rowsD nt D ex) (rowsD_ex nt D v ex) (RLeL.refl _ _) (List.Perm.refl _) (fun a ha => atomsD_ex.2 (.inr ha)) (fun e he => ⟨e, he, rfl, rfl⟩) h.ids rfl
theorem Inv.perm {E : Env} {nt : Nat} {D : St} {ex ex' : List V} {w : World} (h : Inv E nt D ex w) (hp : ex.Perm ex') : Inv E nt D ex' w := by
 have hr : (rowsL ex).Perm (rowsL ex') := by
  clear h
  induction hp with
  | nil => exact List.Perm.refl _
  | cons x _ ih => exact List.Perm.append_left _ ih
  | swap x y l => simp only [rowsL]; rw [← List.append_assoc, ← List.append_assoc]; exact List.Perm.append_right _ List.perm_append_comm
  | trans _ _ h1 h2 => exact h1.trans h2
 have hR : (rowsD nt D ex').Perm (rowsD nt D ex) := List.Perm.append_left _ (List.Perm.append_left _ hr.symm)
 refine h.weaken [] (rowsD nt D ex) (rowsD nt D ex) (List.Perm.refl _) (RLeL.refl _ _) hR (fun b hb => ?_) (fun e he => ⟨e, he, rfl, rfl⟩) h.ids rfl
 unfold atomsD at hb ⊢
 simp only [List.mem_append] at hb ⊢
 refine hb.imp id (Or.imp id fun hb => ?_)
 obtain ⟨x, hx, hb⟩ := atomsL_mem hb
 exact atoms_mem (hp.mem_iff.2 hx) hb
theorem Inv.pack {E : Env} {nt : Nat} {D : St} {l ex : List V} {w : World} (h : Inv E nt D (l ++ ex) w) {y : V} (hr : Abs.rows y = rowsL l) (ha : Abs.atoms y = atomsL l) : Inv E nt D (y :: ex) w := by
 have hR : rowsD nt D (y :: ex) = rowsD nt D (l ++ ex) := by unfold rowsD; simp only [rowsL, rowsL_append, hr]
 refine h.weaken [] (rowsD nt D (l ++ ex)) (rowsD nt D (l ++ ex)) (List.Perm.refl _) (RLeL.refl _ _) (by rw [hR]) (fun b hb => ?_) (fun e he => ⟨e, he, rfl, rfl⟩) h.ids rfl
 unfold atomsD at hb ⊢
 simpa only [atomsL, atomsL_append, ha] using hb
theorem keysD_pack {nt : Nat} {D : St} {l ex : List V} {y : V} (hr : rows y = rowsL l) : keysD nt D (y :: ex) = keysD nt D (l ++ ex) := by
 unfold keysD rowsD; simp only [rowsL, rowsL_append, hr]
theorem keysD_perm {nt : Nat} {D : St} {ex ex' : List V} (hp : ex.Perm ex') {k : Nat} (h : k ∈ keysD nt D ex') : k ∈ keysD nt D ex := by
 obtain ⟨e, he, hk⟩ := List.mem_filterMap.1 h
 refine List.mem_filterMap.2 ⟨e, ?_, hk⟩
 unfold rowsD at he ⊢
 simp only [List.mem_append] at he ⊢
 refine he.imp id (Or.imp id fun he => ?_)
 obtain ⟨x, hx, he⟩ := rowsL_mem he
 exact rowsL_mem_of (hp.mem_iff.2 hx) he
theorem keysD_drop {nt : Nat} {D : St} {ex : List V} {v : V} {k : Nat} (h : k ∈ keysD nt D ex) : k ∈ keysD nt D (v :: ex) := by
 obtain ⟨e, he, hk⟩ := List.mem_filterMap.1 h
 exact List.mem_filterMap.2 ⟨e, (rowsD_ex nt D v ex).mem_iff.2 (List.mem_append_right _ he), hk⟩
mutual
theorem solid_PR {β : Nat → Nat} {D D' : St} : ∀ {v : V} {u : Value}, solid v = true → PR β D v u → PR β D' v u
 | .fn f a b, u, h, hu => by
   simp only [solid, Bool.and_eq_true] at h
   obtain ⟨ua, ub, rfl, h1, h2⟩ := hu
   exact ⟨ua, ub, rfl, solidL_PR h.1 h1, solidL_PR h.2 h2⟩
 | .agg _, _, h, _ | .tup _, _, h, _ | .ref _ _, _, h, _ | .loc _ _, _, h, _ => by simp [solid] at h
 | .own _ _ _ _, _, _, hu => hu
 | .dead, _, _, hu => trivial
 | .int _ _, _, _, hu | .bool _, _, _, hu | .nilp, _, _, hu | .nilf, _, _, hu | .bptr _ _, _, _, hu | .ip _ _ _, _, _, hu | .im _ _ _ _ _, _, _, hu => hu
theorem solidL_PR {β : Nat → Nat} {D D' : St} : ∀ {l : List V} {us : List Value}, solidL l = true → PRL β D l us → PRL β D' l us
 | [], us, h, hu => hu
 | v :: l, us, h, hu => by
   simp only [solidL, Bool.and_eq_true] at h
   obtain ⟨u, us', rfl, h1, h2⟩ := hu
   exact ⟨u, us', rfl, solid_PR h.1 h1, solidL_PR h.2 h2⟩
end
mutual
theorem solid_hd {β : Nat → Nat} {D : St} : ∀ {v : V} {u : Value}, solid v = true → PR β D v u → hd β v = some u
 | .fn f a b, u, h, hu => by
   simp only [solid, Bool.and_eq_true] at h
   obtain ⟨ua, ub, rfl, h1, h2⟩ := hu
   simp only [hd, solidL_hd h.1 h1, solidL_hd h.2 h2]
 | .agg _, _, h, _ | .tup _, _, h, _ | .ref _ _, _, h, _ | .loc _ _, _, h, _ | .own _ _ _ _, _, h, _ | .dead, _, h, _ => by simp [solid] at h
 | .int _ _, _, _, hu | .bool _, _, _, hu | .nilp, _, _, hu | .nilf, _, _, hu | .bptr _ _, _, _, hu | .ip _ _ _, _, _, hu | .im _ _ _ _ _, _, _, hu => by simp only [PR] at hu; simp [hd, hu]
theorem solidL_hd {β : Nat → Nat} {D : St} : ∀ {l : List V} {us : List Value}, solidL l = true → PRL β D l us → hdL β l = some us
 | [], us, h, hu => by simp only [PRL] at hu; subst hu; rfl
 | v :: l, us, h, hu => by
   simp only [solidL, Bool.and_eq_true] at h
   obtain ⟨u, us', rfl, h1, h2⟩ := hu
   simp only [hdL, solid_hd h.1 h1, solidL_hd h.2 h2]
end
structure Step (E : Env) (nt : Nat) (D D1 : St) (ex ex1 : List V) (w : World) (a : Act) : Prop where
 inv : Inv E nt D1 ex1 w
 slots : SlotsOk E nt D1 a
 kept : Kept D D1
 nx : D1.nx = D.nx
 keys : ∀ k, k ∈ keysD nt D1 ex1 → k ∈ keysD nt D ex
theorem takeF_step {E : Env} {nt : Nat} {w : World} {a : Act} {r : Root} {p : List Nat} {D D1 : St} {ex : List V} {y : V} {u : Value} (hI : Inv E nt D ex w) (hS : SlotsOk E nt D a) (hu : PR E.β D (.ref r p) u) (h : takeF D r p = some (y, D1)) :
 Step E nt D D1 ex (y :: ex) w a ∧ ∀ D', PR E.β D' y u := by
 obtain ⟨h1, h2, h3, h4, h5, d, k, n, cs, h6, h7, h8⟩ := takeF_ok hI hS h
 refine ⟨⟨h1, h2, h3, h4, h5⟩, fun D' => ?_⟩
 have := h8 u (hu d k n cs h6)
 rw [h7] at this ⊢
 obtain ⟨R0, hR0⟩ := row_of_look (ex := ex) (hS.lt h6) h6 (e := (d, k, n, cs.map sh)) (by simp [Abs.rows])
 exact PR_frz_own (hI.rows _ (hR0.mem_iff.2 (List.mem_append_left _ (by simp [Abs.rows])))) (hu d k n cs h6)
mutual
theorem settle_ok {E : Env} {nt : Nat} {w : World} {a : Act} {fz : Bool} : ∀ {v : V} {D D1 : St} {ex : List V} {y : V} {u : Value}, Inv E nt D ex w → SlotsOk E nt D a → PR E.β D v u → VOk E nt D ex w v → (∀ e ∈ rows v, RowOk E w e ∧ keyOf e = none) →
 settle fz v D = some (y, D1) → Step E nt D D1 ex (y :: ex) w a ∧ ∀ D', PR E.β D' y u
 | .ref r p, D, D1, ex, y, u, hI, hS, hu, hv, hr, h => by
   simp only [settle] at h
   cases fz with
   | true =>
     simp only [if_true] at h
     unfold takeZ at h
     split at h
     ·rename_i d hl
      simp only [Option.some.injEq, Prod.mk.injEq] at h
      obtain ⟨rfl, rfl⟩ := h
      obtain ⟨R0, hR0⟩ := row_of_look (ex := ex) (hS.lt hl) hl (e := (d, 0, 0, [])) (by simp [Abs.rows, rowsL])
      have hro : RowOk E w (d, 0, 0, []) := hI.rows _ (hR0.mem_iff.2 (List.mem_append_left _ (by simp [Abs.rows, rowsL])))
      have hrc : RowOk E w (cpD d, 0, 0, []) ∧ keyOf (cpD d, 0, 0, []) = none := by cases d <;> exact ⟨⟨rfl, rfl⟩, rfl⟩
      have hhd : hd E.β (.own d 0 0 []) = hd E.β (.own (cpD d) 0 0 []) := by
       cases d with
       | nil => rfl
       | emp A => rfl
       | blk g cap kk =>
         obtain ⟨_, _, q1, _, q2, _⟩ := hro
         have : cap = 0 := by omega
         subst this; rfl
      refine ⟨⟨hI.join (fun e he => ?_) (fun b hb => by simp [Abs.atoms, atomsL] at hb), hS, Kept.refl _, rfl, fun k hk => ?_⟩, fun D' => ?_⟩
      ·simp [Abs.rows, rowsL] at he; subst he; exact hrc
      ·rw [show keysD nt D _ = keysOf (rowsD nt D _) from rfl, (keysOf_perm (rowsD_ex nt D _ ex)).mem_iff, keysOf_append] at hk
       rcases List.mem_append.1 hk with hk | hk
       ·obtain ⟨e, he, hk⟩ := List.mem_filterMap.1 hk
        simp [Abs.rows, rowsL] at he; subst he
        rw [hrc.2] at hk; cases hk
       ·exact hk
      ·have := hu d 0 0 [] hl
       rw [hhd] at this; exact this
     exact takeF_step hI hS hu h
   | false =>
     simp only [Bool.false_eq_true, if_false] at h
     obtain ⟨h1, h2, h3, h4, h5, h6, d, k, n, cs, rfl⟩ := take_ok hI hS h
     exact ⟨⟨h1, h2, h3, h4, h5⟩, fun D' => hu d k n cs h6⟩
 | .loc r p, D, D1, ex, y, u, hI, hS, hu, hv, hr, h => by simp [settle] at h
 | .agg cs, D, D1, ex, y, u, hI, hS, hu, hv, hr, h => by
   simp only [settle] at h
   cases hc : settleL fz cs D with
   | none => simp [hc] at h
   | some z =>
     obtain ⟨l, D2⟩ := z
     simp only [hc, Option.some.injEq, Prod.mk.injEq] at h
     obtain ⟨rfl, rfl⟩ := h
     obtain ⟨us, rfl, hl⟩ := hu
     obtain ⟨h1, h2⟩ := settleL_ok hI hS hl hv hr hc
     exact ⟨⟨h1.inv.pack rfl rfl, h1.slots, h1.kept, h1.nx, fun k hk => h1.keys k (by rw [← keysD_pack (y := .agg l) rfl]; exact hk)⟩, fun D' => ⟨us, rfl, h2 D'⟩⟩
 | .tup cs, D, D1, ex, y, u, hI, hS, hu, hv, hr, h => by
   simp only [settle] at h
   cases hc : settleL fz cs D with
   | none => simp [hc] at h
   | some z =>
     obtain ⟨l, D2⟩ := z
     simp only [hc, Option.some.injEq, Prod.mk.injEq] at h
     obtain ⟨rfl, rfl⟩ := h
     obtain ⟨us, rfl, hl⟩ := hu
     obtain ⟨h1, h2⟩ := settleL_ok hI hS hl hv hr hc
     exact ⟨⟨h1.inv.pack rfl rfl, h1.slots, h1.kept, h1.nx, fun k hk => h1.keys k (by rw [← keysD_pack (y := .tup l) rfl]; exact hk)⟩, fun D' => ⟨us, rfl, h2 D'⟩⟩
 | .fn f l1 l2, D, D1, ex, y, u, hI, hS, hu, hv, hr, h => by
   simp only [settle] at h
   cases hc : solidL l1 && solidL l2 with
   | false => simp [hc] at h
   | true =>
     simp only [hc, if_true, Option.some.injEq, Prod.mk.injEq] at h
     obtain ⟨rfl, rfl⟩ := h
     refine ⟨⟨hI.join hr hv, hS, Kept.refl D, rfl, fun k hk => ?_⟩, fun D' => solid_PR (v := .fn f l1 l2) (by simpa [solid] using hc) hu⟩
     rw [show keysD nt D _ = keysOf (rowsD nt D _) from rfl, (keysOf_perm (rowsD_ex nt D _ ex)).mem_iff, keysOf_append] at hk
     rcases List.mem_append.1 hk with hk | hk
     ·obtain ⟨e, he, hk⟩ := List.mem_filterMap.1 hk
      rw [(hr e he).2] at hk; cases hk
     ·exact hk
 | .dead, D, D1, ex, y, u, hI, hS, hu, hv, hr, h | .int _ _, D, D1, ex, y, u, hI, hS, hu, hv, hr, h | .bool _, D, D1, ex, y, u, hI, hS, hu, hv, hr, h | .nilp, D, D1, ex, y, u, hI, hS, hu, hv, hr, h | .nilf, D, D1, ex, y, u, hI, hS, hu, hv, hr, h
 | .bptr _ _, D, D1, ex, y, u, hI, hS, hu, hv, hr, h | .ip _ _ _, D, D1, ex, y, u, hI, hS, hu, hv, hr, h | .im _ _ _ _ _, D, D1, ex, y, u, hI, hS, hu, hv, hr, h | .own _ _ _ _, D, D1, ex, y, u, hI, hS, hu, hv, hr, h => by
   simp only [settle, Option.some.injEq, Prod.mk.injEq] at h
   obtain ⟨rfl, rfl⟩ := h
   refine ⟨⟨hI.join hr hv, hS, Kept.refl D, rfl, fun k hk => ?_⟩, fun D' => hu⟩
   rw [show keysD nt D _ = keysOf (rowsD nt D _) from rfl, (keysOf_perm (rowsD_ex nt D _ ex)).mem_iff, keysOf_append] at hk
   rcases List.mem_append.1 hk with hk | hk
   ·obtain ⟨e, he, hk⟩ := List.mem_filterMap.1 hk
    rw [(hr e he).2] at hk; cases hk
   ·exact hk
theorem settleL_ok {E : Env} {nt : Nat} {w : World} {a : Act} {fz : Bool} : ∀ {l : List V} {D D1 : St} {ex ys : List V} {us : List Value}, Inv E nt D ex w → SlotsOk E nt D a → PRL E.β D l us → (∀ a ∈ atomsL l, AtOk E w D.nx (fun k => k ∈ keysD nt D ex) a) →
 (∀ e ∈ rowsL l, RowOk E w e ∧ keyOf e = none) → settleL fz l D = some (ys, D1) → Step E nt D D1 ex (ys ++ ex) w a ∧ ∀ D', PRL E.β D' ys us
 | [], D, D1, ex, ys, us, hI, hS, hu, hv, hr, h => by
   simp only [settleL, Option.some.injEq, Prod.mk.injEq] at h
   obtain ⟨rfl, rfl⟩ := h
   exact ⟨⟨hI, hS, Kept.refl D, rfl, fun k hk => hk⟩, fun D' => hu⟩
 | v :: l, D, D1, ex, ys, us, hI, hS, hu, hv, hr, h => by
   simp only [settleL] at h
   cases hc : settle fz v D with
   | none => simp [hc] at h
   | some z =>
     obtain ⟨x, D2⟩ := z
     simp only [hc] at h
     cases hc2 : settleL fz l D2 with
     | none => simp [hc2] at h
     | some z2 =>
       obtain ⟨xs, D3⟩ := z2
       simp only [hc2, Option.some.injEq, Prod.mk.injEq] at h
       obtain ⟨rfl, rfl⟩ := h
       obtain ⟨u, us', rfl, hu1, hu2⟩ := hu
       obtain ⟨h1, h2⟩ := settle_ok hI hS hu1 (fun b hb => hv b (List.mem_append_left _ hb)) (fun e he => hr e (List.mem_append_left _ he)) hc
       obtain ⟨h3, h4⟩ := settleL_ok h1.inv h1.slots (PRL_kept h1.kept hu2) (fun b hb => (hv b (List.mem_append_right _ hb)).mono (by rw [h1.nx]; exact Nat.le_refl _) h1.keys) (fun e he => hr e (List.mem_append_right _ he)) hc2
       have hp : (xs ++ x :: ex).Perm ((x :: xs) ++ ex) := List.perm_middle
       exact ⟨⟨h3.inv.perm hp, h3.slots, h1.kept.trans h3.kept, h3.nx.trans h1.nx, fun k hk => h1.keys k (h3.keys k (keysD_perm hp hk))⟩, fun D' => ⟨u, us', rfl, h2 D', h4 D'⟩⟩
end
theorem FOk.ext {E : Env} {w w' : World} {K : Nat → Prop} {pm : Bool} {A : Addr} {cs : List V} (hb : ∀ k, k < w.heap.size → ¬ K k → w'.heap[k]? = w.heap[k]?) (h : FOk E w K pm A cs) : FOk E w' K pm A cs := by
 refine ⟨h.1, fun j x hx => ?_, h.2.2⟩
 obtain ⟨u, hu, hm⟩ := h.2.1 j x hx
 have hne : cs ≠ [] := fun e => by rw [e] at hx; simp at hx
 have hlt : A.block < w.heap.size := by have := World.block_lt_of_cell? w _ hu; rwa [block_of_add] at this
 refine ⟨u, ?_, hm⟩
 rw [← hu]
 exact World.cell?_of_block (by rw [block_of_add]; exact hb _ hlt (h.2.2 hne).2)
theorem RowOk.lt {E : Env} {w : World} {e : RowE} (h : RowOk E w e) {g : Nat} (hk : keyOf e = some g) : g < w.heap.size := by
 obtain ⟨d, k, n, cs⟩ := e
 cases d <;> simp [keyOf] at hk
 subst hk
 obtain ⟨_, _, _, _, _, cur, el, h6, _⟩ := h
 exact (Array.getElem?_eq_some_iff.1 h6).1
theorem RowOk.ext {E : Env} {w w' : World} {e : RowE} (hb : ∀ g, keyOf e = some g → w'.heap[g]? = w.heap[g]?) (h : RowOk E w e) : RowOk E w' e := by
 obtain ⟨d, k, n, cs⟩ := e
 cases d with
 | nil => exact h
 | emp A => exact h
 | blk g cap kk =>
   obtain ⟨q1, q2, q3, q4, q5, cur, el, q6, q7, q8⟩ := h
   exact ⟨q1, q2, q3, q4, q5, cur, el, by rw [hb g rfl]; exact q6, q7, q8⟩
theorem Inv.ext {E : Env} {nt : Nat} {D : St} {ex : List V} {w w' : World} (h : Inv E nt D ex w) (hs : w.heap.size ≤ w'.heap.size) (hb : ∀ k, k < w.heap.size → w'.heap[k]? = w.heap[k]?) : Inv E nt D ex w' := by
 refine ⟨fun e he => (h.rows e he).ext fun g hg => hb g ((h.rows e he).lt hg), h.nodup, fun a ha => ?_, h.boxes, h.ids, h.keysG, fun k hk => h.newG k (by omega), h.gpb⟩
 have h0 := h.atoms a ha
 cases a with
 | p b => exact h0
 | i pm A cap n cs =>
   refine ⟨h0.1, ?_⟩
   have h2 := h0.2
   cases A with
   | none => exact h2
   | some a => exact FOk.ext (fun k hk _ => hb k hk) h2
 | f pm A cs => exact FOk.ext (fun k hk _ => hb k hk) h0
theorem Inv.key_lt {E : Env} {nt : Nat} {D : St} {ex : List V} {w : World} (h : Inv E nt D ex w) {k : Nat} (hk : k ∈ keysD nt D ex) : k < w.heap.size := by
 obtain ⟨e, he, hk⟩ := List.mem_filterMap.1 hk
 exact (h.rows e he).lt hk
theorem Inv.newRow {E : Env} {nt : Nat} {D : St} {ex : List V} {w : World} {cs : List V} (h : Inv E nt D (cs ++ ex) w) {cur : Array Value} {el : TypeId} {cap kk r n : Nat}
 (h1 : n ≤ cap) (h2 : cap ≤ 9223372036854775807) (h3 : 0 < kk) (h4 : cs.length = n * kk) (h5 : 0 < n ∨ r = kk ∨ cap = 0) (h6 : cur.size = cap * kk) (h7 : ∀ (j : Nat) (x : V), cs[j]? = some x → ∃ u, cur[j]? = some u ∧ MR E.β x u) :
 Inv E nt D (.own (.blk w.heap.size cap kk) r n cs :: ex) (w.alloc (.cells cur el)) := by
 have hold : ∀ k, k < w.heap.size → (w.alloc (.cells cur el)).heap[k]? = w.heap[k]? := fun k hk => by first | exact heap_alloc_old w _ k hk | exact heap_alloc_old w _ hk
 have hI : Inv E nt D (cs ++ ex) (w.alloc (.cells cur el)) := h.ext (by simp) hold
 have hp : (rowsD nt D (.own (.blk w.heap.size cap kk) r n cs :: ex)).Perm ((.blk w.heap.size cap kk, r, n, cs.map sh) :: rowsD nt D (cs ++ ex)) := by
  refine (rowsD_ex nt D _ ex).trans ?_
  simp only [Abs.rows, List.cons_append]
  refine List.Perm.cons _ ?_
  unfold rowsD
  rw [rowsL_append]
  generalize rowsL cs = a
  generalize slotRows nt D.s = b
  generalize boxRows D.m = c
  generalize rowsL ex = d
  have e1 : (a ++ (b ++ (c ++ d))).Perm ((b ++ c) ++ (a ++ d)) := by
   have e2 : a ++ (b ++ (c ++ d)) = (a ++ (b ++ c)) ++ d := by simp [List.append_assoc]
   have e3 : (b ++ c) ++ (a ++ d) = ((b ++ c) ++ a) ++ d := by simp [List.append_assoc]
   rw [e2, e3]
   exact List.Perm.append_right _ List.perm_append_comm
  rw [List.append_assoc] at e1
  exact e1
 have hkp : (keysD nt D (.own (.blk w.heap.size cap kk) r n cs :: ex)).Perm (w.heap.size :: keysD nt D (cs ++ ex)) := keysOf_perm hp
 refine ⟨fun e he => ?_, ?_, fun a ha => ?_, h.boxes, h.ids, fun k hk => ?_, hI.newG, h.gpb⟩
 ·rcases List.mem_cons.1 (hp.mem_iff.1 he) with rfl | he
  ·refine ⟨h1, h2, h3, by simpa using h4, h5, cur, el, heap_alloc_new w _, h6, fun j x hx => ?_⟩
   rw [List.getElem?_map, Option.map_eq_some_iff] at hx
   obtain ⟨z, hz, rfl⟩ := hx
   obtain ⟨u, hu, hm⟩ := h7 j z hz
   exact ⟨u, hu, MR_sh.2 hm⟩
  ·exact hI.rows e he
 ·refine hkp.nodup_iff.2 (List.nodup_cons.2 ⟨fun hk => ?_, h.nodup⟩)
  exact absurd (h.key_lt hk) (by omega)
 ·have ha' : a ∈ atomsD nt D (cs ++ ex) := by
   rcases atomsD_ex.1 ha with ha | ha
   ·unfold atomsD; rw [atomsL_append]
    exact List.mem_append_right _ (List.mem_append_right _ (List.mem_append_left _ ha))
   ·unfold atomsD at ha ⊢; rw [atomsL_append]
    rcases List.mem_append.1 ha with ha | ha
    ·exact List.mem_append_left _ ha
    rcases List.mem_append.1 ha with ha | ha
    ·exact List.mem_append_right _ (List.mem_append_left _ ha)
    ·exact List.mem_append_right _ (List.mem_append_right _ (List.mem_append_right _ ha))
  have h0 := hI.atoms a ha'
  have hw := h.atoms a ha'
  have hf : ∀ {pm A cs'}, FOk E w (fun k => k ∈ keysD nt D (cs ++ ex)) pm A cs' → FOk E (w.alloc (.cells cur el)) (fun k => k ∈ keysD nt D (.own (.blk w.heap.size cap kk) r n cs :: ex)) pm A cs' := by
   intro pm A cs' hf
   have hf2 := FOk.ext (w' := w.alloc (.cells cur el)) (fun k hk _ => hold k hk) hf
   refine ⟨hf2.1, hf2.2.1, fun hc => ⟨(hf.2.2 hc).1, fun hk => ?_⟩⟩
   rcases List.mem_cons.1 (hkp.mem_iff.1 hk) with hk | hk
   ·cases cs' with
    | nil => exact hc rfl
    | cons z l =>
      obtain ⟨u, hu, _⟩ := hf.2.1 0 z rfl
      have := World.block_lt_of_cell? w _ hu
      rw [block_of_add] at this
      omega
   ·exact (hf.2.2 hc).2 hk
  cases a with
  | p b => exact h0
  | i pm A cap n cs' =>
    refine ⟨hw.1, ?_⟩
    have h2 := hw.2
    cases A with
    | none => exact h2
    | some a => exact hf h2
  | f pm A cs' => exact hf hw
 ·rcases List.mem_cons.1 (hkp.mem_iff.1 hk) with rfl | hk
  ·exact h.newG _ (Nat.le_refl _)
  ·exact h.keysG k hk
theorem put_kept {D : St} {t : Nat} {v : V} (hn : noRow v = true) : Kept D (D.put t v) := by
 intro r' q d k n cs hq
 cases r' with
 | slot t' =>
   simp only [look, St.put] at hq
   by_cases e : t' = t
   ·rw [if_pos e] at hq
    have := go_noRow q v _ hn hq; simp [noRow] at this
   ·rw [if_neg e] at hq; exact ⟨cs, hq⟩
 | box b => exact ⟨cs, hq⟩
theorem put_turned {D : St} {t : Nat} {v : V} : Turned D (D.put t v) (.slot t) [] := by
 intro r' q d k n cs hq
 cases r' with
 | slot t' =>
   simp only [look, St.put] at hq
   by_cases e : t' = t
   ·exact .inl (by simp [hitRef, pre, e])
   ·rw [if_neg e] at hq; exact .inr ⟨cs, hq⟩
 | box b => exact .inr ⟨cs, hq⟩
theorem Turned.trans_kept {D D1 D2 : St} {r : Root} {p : List Nat} (h : Turned D D1 r p) (k : Kept D1 D2) : Turned D D2 r p := by
 intro r' q d k' n cs hq
 obtain ⟨cs', h'⟩ := k r' q d k' n cs hq
 exact h r' q d k' n cs' h'
theorem Act.put_getD (a : Act) (t i : Nat) (u : Value) (ht : t < a.tmps.size) : (a.put (some t) u).tmps.getD i undef = if i = t then u else a.tmps.getD i undef := by
 simp only [Act.put, Array.getD_eq_getD_getElem?, Array.getElem?_setIfInBounds]
 by_cases e : t = i
 ·subst e; simp [ht]
 ·simp [e, Ne.symm e]
theorem put_rows {nt : Nat} {D : St} {t : Nat} {v : V} {ex : List V} (ht : t < nt) : ∃ R, (rowsD nt D (v :: ex)).Perm (rows (D.s t) ++ (rows v ++ R)) ∧ (rowsD nt (D.put t v) ex).Perm (rows v ++ R) := by
 obtain ⟨R, h1, h2⟩ := slotRows_set nt t D.s ht
 refine ⟨R ++ (boxRows D.m ++ rowsL ex), ?_, ?_⟩
 ·refine (rowsD_ex nt D v ex).trans ?_
  unfold rowsD
  refine (List.Perm.append_left _ (List.Perm.append_right _ h1)).trans ?_
  generalize rows v = a
  generalize rows (D.s t) = b
  generalize boxRows D.m ++ rowsL ex = c
  have : (a ++ ((b ++ R) ++ c)).Perm (b ++ (a ++ (R ++ c))) := by
   have e1 : a ++ ((b ++ R) ++ c) = (a ++ b) ++ (R ++ c) := by simp [List.append_assoc]
   have e2 : b ++ (a ++ (R ++ c)) = (b ++ a) ++ (R ++ c) := by simp [List.append_assoc]
   rw [e1, e2]
   exact List.Perm.append_right _ List.perm_append_comm
  exact this
 ·unfold rowsD
  refine (List.Perm.append_right _ (h2 v)).trans ?_
  rw [List.append_assoc]; exact List.Perm.refl _
theorem killAll_rows {nt : Nat} {D : St} {ex : List V} {r : Root} {p : List Nat} : rowsD nt (killAll D r p) ex = rowsD nt D ex := by
 unfold rowsD killAll; simp only; rw [slotRows_map (f := kill r p) (rows_kill r p)]
theorem killAll_atoms {nt : Nat} {D : St} {ex : List V} {r : Root} {p : List Nat} : atomsD nt (killAll D r p) ex = atomsD nt D ex := by
 unfold atomsD killAll slotAtoms; simp only [atoms_kill]
theorem lay_ok {E : Env} {nt : Nat} {D : St} {ex : List V} {w : World} {a : Act} {t : Nat} {v : V} {u : Value} (hI : Inv E nt D (v :: ex) w) (hS : SlotsOk E nt D a) (ht : t < nt) (hu : PR E.β D v u) :
 Inv E nt (D.lay (some t) v) ex w ∧ SlotsOk E nt (D.lay (some t) v) (a.put (some t) u) ∧ (D.lay (some t) v).nx = D.nx ∧ (D.lay (some t) v).m = D.m ∧ ∀ k, k ∈ keysD nt (D.lay (some t) v) ex → k ∈ keysD nt D (v :: ex) := by
 obtain ⟨R, h1, h2⟩ := put_rows (nt := nt) (D := D) (t := t) (v := v) (ex := ex) ht
 have hat : ∀ b, b ∈ atomsD nt (D.put t v) ex → b ∈ atomsD nt D (v :: ex) := by
  intro b hb
  unfold atomsD St.put at hb
  simp only at hb
  rcases List.mem_append.1 hb with hb | hb
  ·rcases slotAtoms_set hb with hb | hb
   ·exact atomsD_ex.2 (.inl hb)
   ·exact atomsD_ex.2 (.inr (List.mem_append_left _ hb))
  ·exact atomsD_ex.2 (.inr (List.mem_append_right _ hb))
 have hI1 : Inv E nt (D.put t v) ex w := hI.weaken (rows (D.s t)) (rows v ++ R) (rows v ++ R) h1 (RLeL.refl _ _) h2 hat (fun e he => ⟨e, he, rfl, rfl⟩) hI.ids rfl
 have hk1 := keys_sub h1 (RLeL.refl E.β _) h2
 have hsz : (a.put (some t) u).tmps.size = nt := by simp [Act.put, hS.size]
 have hts : t < a.tmps.size := by rw [hS.size]; exact ht
 unfold St.lay
 cases hn : noRow v with
 | true =>
   simp only [if_true]
   have hk := put_kept (D := D) (t := t) hn
   refine ⟨hI1, ⟨hsz, hS.defers, fun i => ?_, fun i hi => ?_⟩, by first | rfl, by first | rfl, hk1⟩
   ·rw [Act.put_getD a t i u hts]
    simp only [St.put]
    by_cases e : i = t
    ·rw [if_pos e, if_pos e]; exact PR_kept hk hu
    ·rw [if_neg e, if_neg e]; exact PR_kept hk (hS.slot i)
   ·have : i ≠ t := by omega
    simp only [St.put, if_neg this]; exact hS.high i hi
 | false =>
   simp only [Bool.false_eq_true, if_false]
   have hk := (put_turned (D := D) (t := t) (v := v)).trans_kept (mild_kept (f := kill (.slot t) []) (kill_mild (.slot t) []))
   have hrow := killAll_rows (nt := nt) (D := D.put t v) (ex := ex) (r := .slot t) (p := [])
   have hatm := killAll_atoms (nt := nt) (D := D.put t v) (ex := ex) (r := .slot t) (p := [])
   refine ⟨hI1.weaken [] (rowsD nt (D.put t v) ex) (rowsD nt (D.put t v) ex) (List.Perm.refl _) (RLeL.refl _ _) (by rw [hrow]) (fun b hb => by rw [hatm] at hb; exact hb) (fun e he => ⟨e, he, rfl, rfl⟩) hI1.ids rfl,
    ⟨hsz, hS.defers, fun i => ?_, fun i hi => ?_⟩, by first | rfl, by first | rfl, fun k hk' => hk1 k (by unfold keysD at hk' ⊢; rw [hrow] at hk'; exact hk')⟩
   ·rw [Act.put_getD a t i u hts]
    simp only [killAll, St.put]
    by_cases e : i = t
    ·rw [if_pos e, if_pos e]; exact PR_kill hk hu
    ·rw [if_neg e, if_neg e]; exact PR_kill hk (hS.slot i)
   ·have : i ≠ t := by omega
    simp only [killAll, St.put, if_neg this, hS.high i hi, kill]
mutual
theorem hd_beta {β β' : Nat → Nat} : ∀ {x : V}, (∀ b, At.p b ∈ atoms x → β' b = β b) → hd β' x = hd β x
 | .bptr b o, h => by simp only [hd, h b (by simp [atoms])]
 | .fn f l1 l2, h => by
   simp only [hd]
   rw [hdL_beta (l := l1) fun b hb => h b (List.mem_append_left _ hb), hdL_beta (l := l2) fun b hb => h b (List.mem_append_right _ hb)]
 | .int _ _, _ | .bool _, _ | .nilp, _ | .nilf, _ | .ip _ _ _, _ | .im _ _ _ _ _, _ | .own _ _ _ _, _ | .agg _, _ | .tup _, _ | .ref _ _, _ | .loc _ _, _ | .dead, _ => rfl
theorem hdL_beta {β β' : Nat → Nat} : ∀ {l : List V}, (∀ b, At.p b ∈ atomsL l → β' b = β b) → hdL β' l = hdL β l
 | [], _ => rfl
 | v :: l, h => by
   simp only [hdL]
   rw [hd_beta (x := v) fun b hb => h b (List.mem_append_left _ hb), hdL_beta (l := l) fun b hb => h b (List.mem_append_right _ hb)]
end
theorem MR_beta {β β' : Nat → Nat} {x : V} {u : Value} (h : ∀ b, At.p b ∈ atoms x → β' b = β b) (hm : MR β x u) : MR β' x u := by
 unfold MR at hm ⊢; rw [hd_beta h]; exact hm
mutual
theorem PR_beta {β β' : Nat → Nat} {D : St} : ∀ {v : V} {u : Value}, (∀ b, At.p b ∈ atoms v → β' b = β b) → PR β D v u → PR β' D v u
 | .bptr b o, u, h, hu => by simp only [PR] at hu ⊢; rw [h b (by simp [atoms])]; exact hu
 | .fn f l1 l2, u, h, hu => by
   obtain ⟨ua, ub, rfl, h1, h2⟩ := hu
   exact ⟨ua, ub, rfl, PRL_beta (fun b hb => h b (List.mem_append_left _ hb)) h1, PRL_beta (fun b hb => h b (List.mem_append_right _ hb)) h2⟩
 | .agg l, u, h, hu => by obtain ⟨us, rfl, h1⟩ := hu; exact ⟨us, rfl, PRL_beta h h1⟩
 | .tup l, u, h, hu => by obtain ⟨us, rfl, h1⟩ := hu; exact ⟨us, rfl, PRL_beta h h1⟩
 | .ref _ _, _, _, hu => hu
 | .loc _ _, _, _, hu => hu
 | .own _ _ _ _, _, _, hu => hu
 | .int _ _, _, _, hu | .bool _, _, _, hu | .nilp, _, _, hu | .nilf, _, _, hu | .ip _ _ _, _, _, hu | .im _ _ _ _ _, _, _, hu | .dead, _, _, hu => hu
theorem PRL_beta {β β' : Nat → Nat} {D : St} : ∀ {l : List V} {us : List Value}, (∀ b, At.p b ∈ atomsL l → β' b = β b) → PRL β D l us → PRL β' D l us
 | [], _, _, hu => hu
 | v :: l, us, h, hu => by
   obtain ⟨u, us', rfl, h1, h2⟩ := hu
   exact ⟨u, us', rfl, PR_beta (fun b hb => h b (List.mem_append_left _ hb)) h1, PRL_beta (fun b hb => h b (List.mem_append_right _ hb)) h2⟩
end
theorem atoms_sh {x : V} {b : At} (h : b ∈ atoms (sh x)) : b ∈ atoms x := by
 cases x <;> first | exact h | simp [sh, atoms, atomsL] at h
mutual
theorem rows_atoms : ∀ {v : V} {e : RowE}, e ∈ rows v → ∀ {x : V}, x ∈ e.2.2.2 → ∀ {b : At}, b ∈ atoms x → b ∈ atoms v
 | .own d k n cs, e, he, x, hx, b, hb => by
   simp only [rows, List.mem_cons] at he
   rcases he with rfl | he
   ·obtain ⟨y, hy, rfl⟩ := List.mem_map.1 hx
    exact atoms_mem hy (atoms_sh hb)
   ·exact rowsL_atoms he hx hb
 | .agg l, e, he, x, hx, b, hb => rowsL_atoms he hx hb
 | .tup l, e, he, x, hx, b, hb => rowsL_atoms he hx hb
 | .fn f l1 l2, e, he, x, hx, b, hb => by
   rcases List.mem_append.1 he with he | he
   ·exact List.mem_append_left _ (rowsL_atoms he hx hb)
   ·exact List.mem_append_right _ (rowsL_atoms he hx hb)
 | .int _ _, _, he, _, _, _, _ | .bool _, _, he, _, _, _, _ | .nilp, _, he, _, _, _, _ | .nilf, _, he, _, _, _, _ | .bptr _ _, _, he, _, _, _, _ | .ip _ _ _, _, he, _, _, _, _ | .im _ _ _ _ _, _, he, _, _, _, _ | .ref _ _, _, he, _, _, _, _ | .loc _ _, _, he, _, _, _, _ | .dead, _, he, _, _, _, _ => by simp [rows] at he
theorem rowsL_atoms : ∀ {l : List V} {e : RowE}, e ∈ rowsL l → ∀ {x : V}, x ∈ e.2.2.2 → ∀ {b : At}, b ∈ atoms x → b ∈ atomsL l
 | [], _, he, _, _, _, _ => by simp [rowsL] at he
 | v :: l, e, he, x, hx, b, hb => by
   rcases List.mem_append.1 he with he | he
   ·exact List.mem_append_left _ (rows_atoms he hx hb)
   ·exact List.mem_append_right _ (rowsL_atoms he hx hb)
end
theorem boxRows_atoms : ∀ {m : List (Nat × Box)} {e : RowE}, e ∈ boxRows m → ∀ {x : V}, x ∈ e.2.2.2 → ∀ {b : At}, b ∈ atoms x → b ∈ boxAtoms m
 | [], _, he, _, _, _, _ => by simp [boxRows] at he
 | (i, c) :: m, e, he, x, hx, b, hb => by
   simp only [boxRows, List.mem_cons, List.mem_append] at he
   rcases he with rfl | he | he
   ·obtain ⟨y, hy, rfl⟩ := List.mem_map.1 hx
    exact List.mem_append_left _ (atoms_mem hy (atoms_sh hb))
   ·exact List.mem_append_left _ (rowsL_atoms he hx hb)
   ·exact List.mem_append_right _ (boxRows_atoms he hx hb)
theorem rowsD_atoms {nt : Nat} {D : St} {ex : List V} {e : RowE} (he : e ∈ rowsD nt D ex) {x : V} (hx : x ∈ e.2.2.2) {b : At} (hb : b ∈ atoms x) : b ∈ atomsD nt D ex := by
 unfold rowsD at he; unfold atomsD
 rcases List.mem_append.1 he with he | he
 ·obtain ⟨t, ht, he⟩ := List.mem_flatMap.1 he
  exact List.mem_append_left _ (List.mem_flatMap.2 ⟨t, ht, rows_atoms he hx hb⟩)
 rcases List.mem_append.1 he with he | he
 ·exact List.mem_append_right _ (List.mem_append_left _ (boxRows_atoms he hx hb))
 ·exact List.mem_append_right _ (List.mem_append_right _ (rowsL_atoms he hx hb))
def At.cs : At → List V
 | .p _ => []
 | .i _ _ _ _ cs => cs
 | .f _ _ cs => cs
mutual
theorem atoms_closed : ∀ {v : V} {c : At}, c ∈ atoms v → ∀ {b : At}, b ∈ atomsL c.cs → b ∈ atoms v
 | .im pm A cap n cs, c, hc, b, hb => by
   simp only [atoms, List.mem_cons] at hc ⊢
   rcases hc with rfl | hc
   ·exact .inr hb
   ·exact .inr (atomsL_closed hc hb)
 | .ip pm A cs, c, hc, b, hb => by
   simp only [atoms, List.mem_cons] at hc ⊢
   rcases hc with rfl | hc
   ·exact .inr hb
   ·exact .inr (atomsL_closed hc hb)
 | .bptr _ _, c, hc, b, hb => by
   simp only [atoms, List.mem_singleton] at hc; subst hc; simp [At.cs, atomsL] at hb
 | .own _ _ _ cs, c, hc, b, hb => atomsL_closed hc hb
 | .agg l, c, hc, b, hb => atomsL_closed hc hb
 | .tup l, c, hc, b, hb => atomsL_closed hc hb
 | .fn f l1 l2, c, hc, b, hb => by
   rcases List.mem_append.1 hc with hc | hc
   ·exact List.mem_append_left _ (atomsL_closed hc hb)
   ·exact List.mem_append_right _ (atomsL_closed hc hb)
 | .int _ _, _, hc, _, _ | .bool _, _, hc, _, _ | .nilp, _, hc, _, _ | .nilf, _, hc, _, _ | .ref _ _, _, hc, _, _ | .loc _ _, _, hc, _, _ | .dead, _, hc, _, _ => by simp [atoms] at hc
theorem atomsL_closed : ∀ {l : List V} {c : At}, c ∈ atomsL l → ∀ {b : At}, b ∈ atomsL c.cs → b ∈ atomsL l
 | [], _, hc, _, _ => by simp [atomsL] at hc
 | v :: l, c, hc, b, hb => by
   rcases List.mem_append.1 hc with hc | hc
   ·exact List.mem_append_left _ (atoms_closed hc hb)
   ·exact List.mem_append_right _ (atomsL_closed hc hb)
end
theorem boxAtoms_mem' : ∀ {m : List (Nat × Box)} {c : At}, c ∈ boxAtoms m → ∃ e ∈ m, c ∈ atomsL e.2.cs
 | [], _, h => by simp [boxAtoms] at h
 | (i, x) :: m, c, h => by
   rcases List.mem_append.1 h with h | h
   ·exact ⟨_, List.mem_cons_self, h⟩
   ·obtain ⟨e, he, h⟩ := boxAtoms_mem' h; exact ⟨e, List.mem_cons_of_mem _ he, h⟩
theorem boxAtoms_of : ∀ {m : List (Nat × Box)} {e : Nat × Box}, e ∈ m → ∀ {c : At}, c ∈ atomsL e.2.cs → c ∈ boxAtoms m
 | (i, x) :: m, e, he, c, hc => by
   rcases List.mem_cons.1 he with rfl | he
   ·exact List.mem_append_left _ hc
   ·exact List.mem_append_right _ (boxAtoms_of he hc)
theorem atomsD_closed {nt : Nat} {D : St} {ex : List V} {c : At} (hc : c ∈ atomsD nt D ex) {b : At} (hb : b ∈ atomsL c.cs) : b ∈ atomsD nt D ex := by
 unfold atomsD at hc ⊢
 rcases List.mem_append.1 hc with hc | hc
 ·obtain ⟨t, ht, hc⟩ := List.mem_flatMap.1 hc
  exact List.mem_append_left _ (List.mem_flatMap.2 ⟨t, ht, atoms_closed hc hb⟩)
 rcases List.mem_append.1 hc with hc | hc
 ·obtain ⟨e, he, hc⟩ := boxAtoms_mem' hc
  exact List.mem_append_right _ (List.mem_append_left _ (boxAtoms_of he (atomsL_closed hc hb)))
 ·exact List.mem_append_right _ (List.mem_append_right _ (atomsL_closed hc hb))
def Env.at (E : Env) (β : Nat → Nat) : Env := { E with β := β }
theorem RowOk.beta {E : Env} {β : Nat → Nat} {w : World} {e : RowE} (hb : ∀ x ∈ e.2.2.2, ∀ b, At.p b ∈ atoms x → β b = E.β b) (h : RowOk E w e) : RowOk (E.at β) w e := by
 obtain ⟨d, k, n, cs⟩ := e
 cases d with
 | nil => exact h
 | emp A => exact h
 | blk g cap kk =>
   obtain ⟨q1, q2, q3, q4, q5, cur, el, q6, q7, q8⟩ := h
   refine ⟨q1, q2, q3, q4, q5, cur, el, q6, q7, fun j x hx => ?_⟩
   obtain ⟨u, hu, hm⟩ := q8 j x hx
   exact ⟨u, hu, MR_beta (β := E.β) (fun b hb' => hb x (List.mem_of_getElem? hx) b hb') hm⟩
theorem FOk.beta {E : Env} {β : Nat → Nat} {w : World} {K : Nat → Prop} {pm : Bool} {A : Addr} {cs : List V} (hb : ∀ b, At.p b ∈ atomsL cs → β b = E.β b) (h : FOk E w K pm A cs) : FOk (E.at β) w K pm A cs := by
 refine ⟨h.1, fun j x hx => ?_, h.2.2⟩
 obtain ⟨u, hu, hm⟩ := h.2.1 j x hx
 exact ⟨u, hu, MR_beta (β := E.β) (fun b hb' => hb b (atoms_mem (List.mem_of_getElem? hx) hb')) hm⟩
theorem Inv.beta {E : Env} {β : Nat → Nat} {nt : Nat} {D : St} {ex : List V} {w : World} (h : Inv E nt D ex w) (hb : ∀ b, b < D.nx → β b = E.β b) : Inv (E.at β) nt D ex w := by
 have hp : ∀ b, At.p b ∈ atomsD nt D ex → β b = E.β b := fun b hm => hb b (h.atoms _ hm)
 refine ⟨fun e he => (h.rows e he).beta fun x hx b hb' => hp b (rowsD_atoms he hx hb'), h.nodup, fun c hc => ?_, fun e he => ?_, h.ids, h.keysG, h.newG, h.gpb⟩
 ·have h0 := h.atoms c hc
  have hcs : ∀ b, At.p b ∈ atomsL c.cs → β b = E.β b := fun b hb' => hp b (atomsD_closed hc hb')
  cases c with
  | p b => exact h0
  | i pm A cap n cs =>
    refine ⟨h0.1, ?_⟩
    have h2 := h0.2
    cases A with
    | none => exact h2
    | some a => exact FOk.beta hcs h2
  | f pm A cs => exact FOk.beta hcs h0
 ·obtain ⟨h1, h2⟩ := h.boxes e he
  exact ⟨by rw [h1]; exact (hb _ h2).symm, h2⟩
theorem Inv.p_lt {E : Env} {nt : Nat} {D : St} {ex : List V} {w : World} (h : Inv E nt D ex w) {b : Nat} (hm : At.p b ∈ atomsD nt D ex) : b < D.nx := h.atoms _ hm
theorem SlotsOk.beta {E : Env} {β : Nat → Nat} {nt : Nat} {D : St} {a : Act} {ex : List V} {w : World} (h : SlotsOk E nt D a) (hI : Inv E nt D ex w) (hb : ∀ b, b < D.nx → β b = E.β b) : SlotsOk (E.at β) nt D a := by
 refine ⟨h.size, h.defers, fun t => ?_, h.high⟩
 rcases Nat.lt_or_ge t nt with ht | ht
 ·exact PR_beta (fun b hb' => hb b (hI.p_lt (List.mem_append_left _ (slotAtoms_mem ht hb')))) (h.slot t)
 ·rw [h.high t ht]; trivial
theorem look_append {D : St} {r : Root} {p : List Nat} {x : V} {cs : List V} (h : look D r p = some x) (hx : x = .agg cs ∨ x = .tup cs ∨ ∃ d k n, x = .own d k n cs) (o : Nat) : look D r (p ++ [o]) = cs[o]? := by
 have key : ∀ (p : List Nat) (v : V), go p v = some x → go (p ++ [o]) v = cs[o]? := by
  intro p
  induction p with
  | nil =>
    intro v hv
    simp only [go, Option.some.injEq] at hv
    subst hv
    rcases hx with rfl | rfl | ⟨d, k, n, rfl⟩ <;> (simp only [List.nil_append, go]; cases cs[o]? <;> rfl)
  | cons q p ih =>
    intro v hv
    cases v <;> simp only [go, List.cons_append] at hv ⊢ <;> first
     | (split at hv
        ·rename_i y hy; exact ih y hv
        ·cases hv)
     | cases hv
 cases r with
 | slot t => exact key p _ h
 | box b =>
   simp only [look] at h ⊢
   cases hb : getBox D.m b with
   | none => rw [hb] at h; simp at h
   | some c =>
     rw [hb] at h
     cases p with
     | nil => simp at h
     | cons q p =>
       simp only [List.cons_append] at h ⊢
       cases hc : c.cs[q]? with
       | none => rw [hc] at h; simp at h
       | some y => rw [hc] at h; exact key p y h
mutual
theorem PR_view {β : Nat → Nat} {D : St} {r : Root} : ∀ {v : V} {p : List Nat} {u : Value}, look D r p = some v → PR β D v u → PR β D (view r p v) u
 | .own d k n cs, p, u, h, hu => by
   intro d' k' n' cs' hq
   rw [h] at hq; cases hq; exact hu
 | .agg l, p, u, h, hu => by
   obtain ⟨us, rfl, h1⟩ := hu
   exact ⟨us, rfl, PRL_view (fun j x hx => by rw [look_append h (.inl rfl)]; simpa using hx) h1⟩
 | .tup l, p, u, h, hu => by
   obtain ⟨us, rfl, h1⟩ := hu
   exact ⟨us, rfl, PRL_view (fun j x hx => by rw [look_append h (.inr (.inl rfl))]; simpa using hx) h1⟩
 | .fn f l1 l2, p, u, h, hu => by
   simp only [view]
   split
   ·exact hu
   ·trivial
 | .int _ _, _, _, _, hu | .bool _, _, _, _, hu | .nilp, _, _, _, hu | .nilf, _, _, _, hu | .bptr _ _, _, _, _, hu | .ip _ _ _, _, _, _, hu | .im _ _ _ _ _, _, _, _, hu | .ref _ _, _, _, _, hu | .loc _ _, _, _, _, hu | .dead, _, _, _, hu => hu
theorem PRL_view {β : Nat → Nat} {D : St} {r : Root} : ∀ {l : List V} {p : List Nat} {i : Nat} {us : List Value}, (∀ (j : Nat) (x : V), l[j]? = some x → look D r (p ++ [i + j]) = some x) → PRL β D l us → PRL β D (viewL r p i l) us
 | [], _, _, _, _, hu => hu
 | v :: l, p, i, us, h, hu => by
   obtain ⟨u, us', rfl, h1, h2⟩ := hu
   refine ⟨u, us', rfl, PR_view (by simpa using h 0 v rfl) h1, PRL_view (fun j x hx => ?_) h2⟩
   have := h (j + 1) x (by simpa using hx)
   rw [show i + 1 + j = i + (j + 1) by omega]; exact this
end
mutual
theorem noRow_view (r : Root) : ∀ (v : V) (p : List Nat), noRow (view r p v) = true
 | .own _ _ _ _, _ => rfl
 | .agg l, p => by simp only [view, noRow]; exact noRowL_view r l p 0
 | .tup l, p => by simp only [view, noRow]; exact noRowL_view r l p 0
 | .fn f a b, p => by
   simp only [view]
   split
   ·rename_i h; simpa [noRow] using h
   ·rfl
 | .int _ _, _ | .bool _, _ | .nilp, _ | .nilf, _ | .bptr _ _, _ | .ip _ _ _, _ | .im _ _ _ _ _, _ | .ref _ _, _ | .loc _ _, _ | .dead, _ => rfl
theorem noRowL_view (r : Root) : ∀ (l : List V) (p : List Nat) (i : Nat), noRowL (viewL r p i l) = true
 | [], _, _ => rfl
 | v :: l, p, i => by simp only [viewL, noRowL, noRow_view r v, noRowL_view r l, Bool.and_self]
end
mutual
theorem atoms_view (r : Root) : ∀ (v : V) (p : List Nat) {b : At}, b ∈ atoms (view r p v) → b ∈ atoms v
 | .own _ _ _ _, _, b, h => by simp [view, atoms] at h
 | .agg l, p, b, h => atomsL_view r l p 0 h
 | .tup l, p, b, h => atomsL_view r l p 0 h
 | .fn f a c, p, b, h => by
   simp only [view] at h
   split at h
   ·exact h
   ·simp [atoms] at h
 | .int _ _, _, _, h | .bool _, _, _, h | .nilp, _, _, h | .nilf, _, _, h | .bptr _ _, _, _, h | .ip _ _ _, _, _, h | .im _ _ _ _ _, _, _, h | .ref _ _, _, _, h | .loc _ _, _, _, h | .dead, _, _, h => h
theorem atomsL_view (r : Root) : ∀ (l : List V) (p : List Nat) (i : Nat) {b : At}, b ∈ atomsL (viewL r p i l) → b ∈ atomsL l
 | [], _, _, _, h => h
 | v :: l, p, i, b, h => by
   rcases List.mem_append.1 h with h | h
   ·exact List.mem_append_left _ (atoms_view r v _ h)
   ·exact List.mem_append_right _ (atomsL_view r l _ _ h)
end
structure Seen (E : Env) (nt : Nat) (D : St) (ex : List V) (w : World) (v : V) (u : Value) : Prop where
 pr : PR E.β D v u
 ok : VOk E nt D ex w v
 flat : ∀ e ∈ rows v, RowOk E w e ∧ keyOf e = none
structure Now (H : Hint) (E : Env) (nt : Nat) (D : St) (ex : List V) (w : World) (a : Act) : Prop where
 inv : Inv E nt D ex w
 slots : SlotsOk E nt D a
 glob : ∀ g cs, H.G g = some cs → V.ip true ⟨g, 0, none⟩ cs ∈ ex
theorem ofCell_ok {E : Env} {nt : Nat} {D : St} {ex : List V} {w : World} {u : Value} {v : V} (h : ofCell u = some v) : Seen E nt D ex w v u ∧ atoms v = [] := by
 unfold ofCell at h
 split at h <;> first
  | (cases h; refine ⟨⟨by simp [PR, hd], by simp [VOk, atoms, atomsL], by simp [rows, rowsL, RowOk, keyOf]⟩, by simp [atoms, atomsL]⟩)
  | cases h
theorem ofCells_ok {E : Env} {nt : Nat} {D : St} {ex : List V} {w : World} : ∀ {us : List Value} {l : List V}, ofCells us = some l → PRL E.β D l us ∧ atomsL l = [] ∧ ∀ e ∈ rowsL l, RowOk E w e ∧ keyOf e = none
 | [], l, h => by simp only [ofCells, Option.some.injEq] at h; subst h; exact ⟨rfl, rfl, fun e he => by simp [rowsL] at he⟩
 | u :: us, l, h => by
   simp only [ofCells] at h
   cases hc : ofCell u with
   | none => rw [hc] at h; cases h
   | some x =>
     rw [hc] at h
     cases hcs : ofCells us with
     | none => rw [hcs] at h; cases h
     | some xs =>
       rw [hcs] at h; cases h
       obtain ⟨h1, h2⟩ := ofCell_ok (E := E) (nt := nt) (D := D) (ex := ex) (w := w) hc
       obtain ⟨h3, h4, h5⟩ := ofCells_ok (E := E) (nt := nt) (D := D) (ex := ex) (w := w) hcs
       refine ⟨⟨u, us, rfl, h1.pr, h3⟩, by simp [atomsL, h2, h4], fun e he => ?_⟩
       rcases List.mem_append.1 he with he | he
       ·exact h1.flat e he
       ·exact h5 e he
theorem ofVal_ok {E : Env} {nt : Nat} {D : St} {ex : List V} {w : World} {u : Value} {v : V} (h : ofVal u = some v) : Seen E nt D ex w v u := by
 unfold ofVal at h
 split at h
 ·rename_i cs
  split at h
  ·rename_i l hl
   cases h
   obtain ⟨h1, h2, h3⟩ := ofCells_ok (E := E) (nt := nt) (D := D) (ex := ex) (w := w) hl
   exact ⟨⟨_, by simp, h1⟩, fun b hb => by simp [atoms, h2] at hb, h3⟩
  ·cases h
 ·exact (ofCell_ok h).1
theorem ev_ok {H : Hint} {E : Env} {nt : Nat} {D : St} {ex : List V} {w : World} {a : Act} (hN : Now H E nt D ex w a) {x : Operand} {v : V} (h : ev H D x = some v) : Seen E nt D ex w v (a.eval x) := by
 cases x with
 | tmp t =>
   simp only [ev, Option.some.injEq] at h
   subst h
   refine ⟨PR_view rfl (hN.slots.slot t), fun b hb => ?_, fun e he => by rw [rows_noRow (noRow_view _ _ _)] at he; cases he⟩
   have hb := atoms_view _ _ _ hb
   rcases Nat.lt_or_ge t nt with ht | ht
   ·exact hN.inv.atoms b (List.mem_append_left _ (slotAtoms_mem ht hb))
   ·rw [hN.slots.high t ht] at hb; simp [atoms] at hb
 | const v' => exact ofVal_ok h
 | func f =>
   simp only [ev, Option.some.injEq] at h
   subst h
   exact ⟨⟨[], [], rfl, rfl, rfl⟩, fun b hb => by simp [atoms, atomsL] at hb, fun e he => by simp [rows, rowsL] at he⟩
 | global g =>
   simp only [ev] at h
   cases hg : H.G g with
   | none => rw [hg] at h; cases h
   | some cs =>
     rw [hg] at h; cases h
     refine ⟨rfl, fun b hb => hN.inv.atoms b ?_, fun e he => by simp [rows] at he⟩
     exact List.mem_append_right _ (List.mem_append_right _ (atoms_mem (hN.glob g cs hg) hb))
theorem evL_ok {H : Hint} {E : Env} {nt : Nat} {D : St} {ex : List V} {w : World} {a : Act} (hN : Now H E nt D ex w a) : ∀ {xs : List Operand} {vs : List V}, evL H D xs = some vs →
 PRL E.β D vs (xs.map a.eval) ∧ (∀ b ∈ atomsL vs, AtOk E w D.nx (fun k => k ∈ keysD nt D ex) b) ∧ ∀ e ∈ rowsL vs, RowOk E w e ∧ keyOf e = none
 | [], vs, h => by simp only [evL, Option.some.injEq] at h; subst h; exact ⟨rfl, fun b hb => by simp [atomsL] at hb, fun e he => by simp [rowsL] at he⟩
 | x :: xs, vs, h => by
   simp only [evL] at h
   cases hx : ev H D x with
   | none => rw [hx] at h; cases h
   | some v =>
     rw [hx] at h
     cases hxs : evL H D xs with
     | none => rw [hxs] at h; cases h
     | some l =>
       rw [hxs] at h; cases h
       obtain ⟨h1, h2, h3⟩ := ev_ok hN hx
       obtain ⟨h4, h5, h6⟩ := evL_ok hN hxs
       refine ⟨⟨_, _, rfl, h1, h4⟩, fun b hb => ?_, fun e he => ?_⟩
       ·rcases List.mem_append.1 hb with hb | hb
        ·exact h2 b hb
        ·exact h5 b hb
       ·rcases List.mem_append.1 he with he | he
        ·exact h3 e he
        ·exact h6 e he
structure To (E : Env) (nt : Nat) (D : St) (ex : List V) (w : World) (E' : Env) (D' : St) (ex' : List V) (w' : World) : Prop where
 beta : ∀ b, b < D.nx → E'.β b = E.β b
 gp : E'.Gp = E.Gp
 gb : E'.Gb = E.Gb
 nx : D.nx ≤ D'.nx
 size : w.heap.size ≤ w'.heap.size
 keys : ∀ k, k ∈ keysD nt D' ex' → k ∈ keysD nt D ex ∨ w.heap.size ≤ k
 same : ∀ k, k < w.heap.size → k ∉ keysD nt D ex → w'.heap[k]? = w.heap[k]?
 os : w'.os = w.os
 tape : w'.tape = w.tape
 out : w'.output = w.output
theorem To.refl (E : Env) (nt : Nat) (D : St) (ex : List V) (w : World) : To E nt D ex w E D ex w :=
 ⟨fun _ _ => rfl, rfl, rfl, Nat.le_refl _, Nat.le_refl _, fun _ h => .inl h, fun _ _ _ => rfl, rfl, rfl, rfl⟩
theorem To.trans {E E1 E2 : Env} {nt : Nat} {D D1 D2 : St} {ex ex1 ex2 : List V} {w w1 w2 : World} (h : To E nt D ex w E1 D1 ex1 w1) (k : To E1 nt D1 ex1 w1 E2 D2 ex2 w2) : To E nt D ex w E2 D2 ex2 w2 := by
 refine ⟨fun b hb => (k.beta b (Nat.lt_of_lt_of_le hb h.nx)).trans (h.beta b hb), k.gp.trans h.gp, k.gb.trans h.gb, Nat.le_trans h.nx k.nx, Nat.le_trans h.size k.size, fun q hq => ?_, fun q hq hn => ?_, k.os.trans h.os, k.tape.trans h.tape, k.out.trans h.out⟩
 ·rcases k.keys q hq with h1 | h1
  ·exact h.keys q h1
  ·exact .inr (Nat.le_trans h.size h1)
 ·rw [k.same q (Nat.lt_of_lt_of_le hq h.size) fun h1 => ?_, h.same q hq hn]
  rcases h.keys q h1 with h2 | h2
  ·exact hn h2
  ·omega
theorem To.of_keys {E : Env} {nt : Nat} {D D' : St} {ex ex' : List V} {w : World} (hx : D'.nx = D.nx) (hk : ∀ k, k ∈ keysD nt D' ex' → k ∈ keysD nt D ex) : To E nt D ex w E D' ex' w :=
 ⟨fun _ _ => rfl, rfl, rfl, by rw [hx]; exact Nat.le_refl _, Nat.le_refl _, fun k h => .inl (hk k h), fun _ _ _ => rfl, rfl, rfl, rfl⟩
def contOf (β : Nat → Nat) (D : St) (r : Root) (p : List Nat) : Option Nat :=
 match r, p with
 | .box b, [] => some (β b)
 | r, p => match look D r p with | some (.own (.blk g _ _) _ _ _) => some g | _ => none
theorem hd_PR {β : Nat → Nat} {D : St} : ∀ {v : V} {u : Value}, hd β v = some u → PR β D v u := by
 have key : ∀ v : V, (∀ u, hd β v = some u → PR β D v u) := by
  intro v
  refine V.rec (motive_1 := fun v => ∀ u, hd β v = some u → PR β D v u) (motive_2 := fun l => ∀ us, hdL β l = some us → PRL β D l us)
   ?_ ?_ ?_ ?_ ?_ ?_ ?_ ?_ ?_ ?_ ?_ ?_ ?_ ?_ ?_ ?_ v
  case refine_11 =>
   intro f a b h1 h2 u h
   simp only [hd] at h
   cases ha : hdL β a with
   | none => rw [ha] at h; cases h
   | some ua =>
     cases hb : hdL β b with
     | none => rw [ha, hb] at h; cases h
     | some ub =>
       rw [ha, hb] at h; cases h
       exact ⟨ua, ub, rfl, h1 _ ha, h2 _ hb⟩
  case refine_15 => intro us h; simp only [hdL, Option.some.injEq] at h; exact h.symm
  case refine_16 =>
   intro x l h1 h2 us h
   simp only [hdL] at h
   cases hx : hd β x with
   | none => rw [hx] at h; cases h
   | some u =>
     cases hl : hdL β l with
     | none => rw [hx, hl] at h; cases h
     | some us' =>
       rw [hx, hl] at h; cases h
       exact ⟨u, us', rfl, h1 _ hx, h2 _ hl⟩
  case refine_8 => intros; assumption
  all_goals (intros; simp_all [hd, PR])
 exact fun {v u} => key v u
theorem MR_PR {β : Nat → Nat} {D : St} {v : V} {u : Value} (h : MR β v u) : PR β D v u := by
 rcases h with h | rfl
 ·exact hd_PR h
 ·trivial
theorem rows_store {nt : Nat} {D : St} {ex : List V} {r : Root} {p : List Nat} {o : Nat} {old y : V} (hc : canStore D r p = true) (h : look D r (p ++ [o]) = some old) (hr : ∀ t, r = .slot t → t < nt) :
 ∃ (d : Dec) (k n : Nat) (cs : List V) (R : List RowE), cs[o]? = some old ∧ (rowsD nt D ex).Perm ((d, k, n, cs.map sh) :: (rows old ++ R)) ∧ (rowsD nt (setAt D r (p ++ [o]) y) ex).Perm ((d, k, n, (cs.set o y).map sh) :: (rows y ++ R)) ∧
  ((∃ b c, r = .box b ∧ p = [] ∧ getBox D.m b = some c ∧ d = .blk c.g 1 c.cs.length) ∨ look D r p = some (.own d k n cs)) := by
 have hown : ∀ (v : V) (q : List Nat), go q v = go q v := fun _ _ => rfl
 cases r with
 | slot t =>
   simp only [canStore] at hc
   cases hl : look D (.slot t) p with
   | none => rw [hl] at hc; cases hc
   | some x =>
     cases x <;> simp only [hl] at hc <;> try (cases hc)
     rename_i d k n cs
     rw [look_append hl (.inr (.inr ⟨d, k, n, rfl⟩))] at h
     obtain ⟨R, h1, h2⟩ := rows_goStore p (D.s t) y hl h
     obtain ⟨S, h3, h4⟩ := slotRows_set nt t D.s (hr t rfl)
     refine ⟨d, k, n, cs, R ++ (S ++ (boxRows D.m ++ rowsL ex)), h, ?_, ?_, .inr rfl⟩
     ·unfold rowsD
      refine (List.Perm.append_right _ (h3.trans (List.Perm.append_right _ h1))).trans ?_
      simp only [List.cons_append, List.append_assoc]; exact List.Perm.refl _
     ·unfold rowsD
      simp only [setAt]
      refine (List.Perm.append_right _ ((h4 _).trans (List.Perm.append_right _ h2))).trans ?_
      simp only [List.cons_append, List.append_assoc]; exact List.Perm.refl _
 | box b =>
   cases p with
   | nil =>
     simp only [List.nil_append, look] at h
     cases hb : getBox D.m b with
     | none => rw [hb] at h; simp at h
     | some c =>
       rw [hb] at h
       simp only at h
       cases hc0 : c.cs[o]? with
       | none => rw [hc0] at h; simp at h
       | some z =>
         rw [hc0] at h
         simp only [go, Option.some.injEq] at h
         subst h
         obtain ⟨R, h1, h2⟩ := boxRows_set hb
         obtain ⟨S, h3, h4⟩ := rowsL_set c.cs o z y hc0
         refine ⟨.blk c.g 1 c.cs.length, 0, 1, c.cs, S ++ (R ++ (slotRows nt D.s ++ rowsL ex)), hc0, ?_, ?_, .inl ⟨b, c, rfl, rfl, hb, rfl⟩⟩
         ·unfold rowsD
          have : (boxRows D.m).Perm (boxRow c :: (rows z ++ (S ++ R))) := h1.trans (List.Perm.cons _ (by rw [← List.append_assoc]; exact List.Perm.append_right _ h3))
          refine (List.Perm.append_left _ (List.Perm.append_right _ this)).trans ?_
          refine (List.perm_append_comm_assoc _ _ _).trans ?_
          simp only [List.cons_append, List.append_assoc]
          exact List.Perm.refl _
         ·unfold rowsD
          simp only [List.nil_append, setAt, hb, hc0, goSet]
          have : (boxRows (setBox D.m b { c with cs := c.cs.set o y })).Perm ((.blk c.g 1 c.cs.length, 0, 1, (c.cs.set o y).map sh) :: (rows y ++ (S ++ R))) := by
           refine (h2 _).trans ?_
           simp only [boxRow, List.length_set]
           exact List.Perm.cons _ (by rw [← List.append_assoc]; exact List.Perm.append_right _ h4)
          refine (List.Perm.append_left _ (List.Perm.append_right _ this)).trans ?_
          refine (List.perm_append_comm_assoc _ _ _).trans ?_
          simp only [List.cons_append, List.append_assoc]
          exact List.Perm.refl _
   | cons i p =>
     simp only [canStore] at hc
     cases hl : look D (.box b) (i :: p) with
     | none => rw [hl] at hc; cases hc
     | some x =>
       cases x <;> simp only [hl] at hc <;> try (cases hc)
       rename_i d k n cs
       rw [look_append hl (.inr (.inr ⟨d, k, n, rfl⟩))] at h
       have hl0 := hl
       simp only [look] at hl
       cases hb : getBox D.m b with
       | none => rw [hb] at hl; simp at hl
       | some c =>
         rw [hb] at hl
         simp only at hl
         cases hc0 : c.cs[i]? with
         | none => rw [hc0] at hl; simp at hl
         | some z =>
           rw [hc0] at hl
           simp only at hl
           obtain ⟨R, h1, h2⟩ := rows_goStore p z y hl h
           obtain ⟨Q, h5, h6⟩ := boxRows_set hb
           obtain ⟨S, h3, h4⟩ := rowsL_set c.cs i z (goSet (p ++ [o]) y z) hc0
           have hsh : (c.cs.set i (goSet (p ++ [o]) y z)).map sh = c.cs.map sh := by
            have : sh (goSet (p ++ [o]) y z) = sh z := by
             cases p with
             | nil => simp only [go, Option.some.injEq] at hl; exact sh_goSet _ _ _ _ hl
             | cons a p' => cases z <;> simp [go] at hl <;> simp [goSet, sh]
            rw [List.map_set, this]
            refine List.ext_getElem? fun j => ?_
            rw [List.getElem?_set]
            by_cases hj : i = j
            ·subst hj; simp [hc0]; exact (List.getElem?_eq_some_iff.1 hc0).1
            ·simp [hj]
           have mv : ∀ (X C : RowE) (A1 S1 R1 Q1 L1 Z1 : List RowE), (L1 ++ ((C :: (((X :: (A1 ++ R1)) ++ S1) ++ Q1)) ++ Z1)).Perm (X :: (A1 ++ (C :: (R1 ++ (S1 ++ (Q1 ++ (L1 ++ Z1))))))) := by
            intro X C A1 S1 R1 Q1 L1 Z1
            refine (List.perm_append_comm_assoc _ _ _).trans ?_
            simp only [List.cons_append, List.append_assoc]
            refine (List.Perm.swap _ _ _).trans (List.Perm.cons _ ?_)
            refine List.perm_middle.symm.trans (List.Perm.append_left _ (List.Perm.cons _ (List.Perm.append_left _ (List.Perm.append_left _ (List.Perm.append_left _ (List.Perm.refl _))))))
           refine ⟨d, k, n, cs, boxRow c :: (R ++ (S ++ (Q ++ (slotRows nt D.s ++ rowsL ex)))), h, ?_, ?_, .inr rfl⟩
           ·unfold rowsD
            have : (boxRows D.m).Perm (boxRow c :: ((((d, k, n, cs.map sh) :: (rows old ++ R)) ++ S) ++ Q)) := h5.trans (List.Perm.cons _ (List.Perm.append_right _ (h3.trans (List.Perm.append_right _ h1))))
            exact (List.Perm.append_left _ (List.Perm.append_right _ this)).trans (mv _ _ _ _ _ _ _ _)
           ·unfold rowsD
            simp only [List.cons_append, setAt, hb, hc0]
            have : (boxRows (setBox D.m b { c with cs := c.cs.set i (goSet (p ++ [o]) y z) })).Perm (boxRow c :: ((((d, k, n, (cs.set o y).map sh) :: (rows y ++ R)) ++ S) ++ Q)) := by
             refine (h6 _).trans ?_
             simp only [boxRow, List.length_set, hsh]
             exact List.Perm.cons _ (List.Perm.append_right _ (h4.trans (List.Perm.append_right _ h2)))
            exact (List.Perm.append_left _ (List.Perm.append_right _ this)).trans (mv _ _ _ _ _ _ _ _)
theorem Inv.box_of {E : Env} {nt : Nat} {D : St} {ex : List V} {w : World} (h : Inv E nt D ex w) {b : Nat} {c : Box} (hb : getBox D.m b = some c) : c.g = E.β b := (h.boxes _ (getBox_mem hb)).1
theorem place_ok {E : Env} {nt : Nat} {D : St} {ex : List V} {w : World} (hI : Inv E nt D ex w) {r : Root} {p : List Nat} {o : Nat} {old : V} (hc : canStore D r p = true) (h : look D r (p ++ [o]) = some old) (hr : ∀ t, r = .slot t → t < nt) :
 ∃ g cap kk cur el, contOf E.β D r p = some g ∧ w.heap[g]? = some (.cells cur el (0, 0)) ∧ g ∈ keysD nt D ex ∧ (∃ u, cur[o]? = some u ∧ MR E.β old u) ∧ ∀ y, ∃ (k n : Nat) (cs : List V) (R : List RowE), cs[o]? = some old ∧
  (rowsD nt D ex).Perm ((.blk g cap kk, k, n, cs.map sh) :: (rows old ++ R)) ∧ (rowsD nt (setAt D r (p ++ [o]) y) ex).Perm ((.blk g cap kk, k, n, (cs.set o y).map sh) :: (rows y ++ R)) := by
 obtain ⟨d0, k0, n0, cs0, R0, g1, g2, g3, g4⟩ := rows_store (nt := nt) (ex := ex) (y := .dead) hc h hr
 have hrow := hI.rows _ (g2.mem_iff.2 List.mem_cons_self)
 cases d0 with
 | nil => rw [show cs0 = [] from by simpa using hrow.2] at g1; simp at g1
 | emp A => rw [show cs0 = [] from by simpa using hrow.2] at g1; simp at g1
 | blk g cap kk =>
   obtain ⟨q1, q2, q3, q4, q5, cur, el, q6, q7, q8⟩ := hrow
   obtain ⟨u, hu, hm⟩ := q8 o (sh old) (by rw [List.getElem?_map, g1]; rfl)
   have hg : contOf E.β D r p = some g := by
    rcases g4 with ⟨b, c, rfl, rfl, hb, hd⟩ | hl
    ·cases hd; simp only [contOf]; rw [hI.box_of hb]
    ·unfold contOf
     cases r with
     | slot t => simp only [hl]
     | box b =>
       cases p with
       | nil => simp [look] at hl; cases hb : getBox D.m b <;> simp [hb] at hl
       | cons i p => simp only [hl]
   refine ⟨g, cap, kk, cur, el, hg, q6, (keysOf_perm g2).mem_iff.2 (by simp [keysOf, keyOf]), ⟨u, hu, MR_sh.1 hm⟩, fun y => ?_⟩
   obtain ⟨d1, k1, n1, cs1, R1, f1, f2, f3, f4⟩ := rows_store (nt := nt) (ex := ex) (y := y) hc h hr
   have hd : d1 = .blk g cap kk := by
    rcases f4 with ⟨b, c, rfl, rfl, hb, hd⟩ | hl
    ·rcases g4 with ⟨b', c', e1, _, hb', hd'⟩ | hl'
     ·cases e1; rw [hb] at hb'; cases hb'; rw [hd, hd']
     ·simp [look, hb] at hl'
    ·rcases g4 with ⟨b', c', rfl, rfl, hb', hd'⟩ | hl'
     ·simp [look, hb'] at hl
     ·rw [hl] at hl'; cases hl'; rfl
   subst hd
   exact ⟨k1, n1, cs1, R1, f1, f2, f3⟩
theorem setCell_heap_other (w : World) (a : Addr) (u : Value) (k : Nat) (h : k ≠ a.block) : (w.setCell a u).heap[k]? = w.heap[k]? := by
 simp only [World.setCell, Array.getElem?_modify]
 rw [if_neg (Ne.symm h)]
theorem setCell_heap_same {w : World} {g o : Nat} {u : Value} {cur : Array Value} {el : TypeId} {fr : Nat × Nat} (h : w.heap[g]? = some (.cells cur el fr)) : (w.setCell ⟨g, o, none⟩ u).heap[g]? = some (.cells (cur.setIfInBounds o u) el fr) := by
 simp [World.setCell, Array.getElem?_modify, h]
theorem setCell_size (w : World) (a : Addr) (u : Value) : (w.setCell a u).heap.size = w.heap.size := by simp [World.setCell]
theorem PR_goStore {β : Nat → Nat} {D : St} : ∀ (p : List Nat) (v : V) {o : Nat} {d : Dec} {k n : Nat} {cs : List V} {y : V} {u : Value}, go p v = some (.own d k n cs) → PR β D v u → PR β D (goSet (p ++ [o]) y v) u
 | [], v, o, d, k, n, cs, y, u, h, hu => by simp only [go, Option.some.injEq] at h; subst h; exact hu
 | i :: p, .own _ _ _ _, o, d, k, n, cs, y, u, h, hu => hu
 | i :: p, .agg l, o, d, k, n, cs, y, u, h, hu => by
   obtain ⟨us, rfl, hl⟩ := hu
   simp only [go] at h
   cases hz : l[i]? with
   | none => simp [hz] at h
   | some z =>
     simp only [hz] at h
     simp only [List.cons_append, goSet, hz]
     exact ⟨us, rfl, PRL_set l us i z _ hz (fun u hu => PR_goStore p z h hu) hl⟩
 | i :: p, .tup l, o, d, k, n, cs, y, u, h, hu => by
   obtain ⟨us, rfl, hl⟩ := hu
   simp only [go] at h
   cases hz : l[i]? with
   | none => simp [hz] at h
   | some z =>
     simp only [hz] at h
     simp only [List.cons_append, goSet, hz]
     exact ⟨us, rfl, PRL_set l us i z _ hz (fun u hu => PR_goStore p z h hu) hl⟩
 | _ :: _, .int _ _, _, _, _, _, _, _, _, h, _ | _ :: _, .bool _, _, _, _, _, _, _, _, h, _ | _ :: _, .nilp, _, _, _, _, _, _, _, h, _ | _ :: _, .nilf, _, _, _, _, _, _, _, h, _ | _ :: _, .bptr _ _, _, _, _, _, _, _, _, h, _
 | _ :: _, .ip _ _ _, _, _, _, _, _, _, _, h, _ | _ :: _, .im _ _ _ _ _, _, _, _, _, _, _, _, h, _ | _ :: _, .fn _ _ _, _, _, _, _, _, _, _, h, _ | _ :: _, .ref _ _, _, _, _, _, _, _, _, h, _ | _ :: _, .loc _ _, _, _, _, _, _, _, _, h, _ | _ :: _, .dead, _, _, _, _, _, _, _, h, _ => by
   simp [go] at h
theorem setAt_s_box (D : St) (b : Nat) (p : List Nat) (y : V) : (setAt D (.box b) p y).s = D.s := by
 simp only [setAt]
 cases getBox D.m b with
 | none => rfl
 | some c => cases p <;> rfl
theorem SlotsOk.store {E : Env} {nt : Nat} {D : St} {a : Act} (h : SlotsOk E nt D a) {r : Root} {p : List Nat} {o : Nat} {old y : V} (hc : canStore D r p = true) (hl : look D r (p ++ [o]) = some old) (hr : ∀ t, r = .slot t → t < nt) :
 SlotsOk E nt (if noRow y then Abs.setAt D r (p ++ [o]) y else killAll (Abs.setAt D r (p ++ [o]) y) r (p ++ [o])) a := by
 have hs1 : ∀ t, PR E.β D ((Abs.setAt D r (p ++ [o]) y).s t) (a.tmps.getD t undef) := by
  intro t
  cases r with
  | slot t' =>
    simp only [Abs.setAt]
    by_cases e : t = t'
    ·subst e
     rw [if_pos rfl]
     simp only [canStore] at hc
     cases hq : look D (.slot t) p with
     | none => rw [hq] at hc; cases hc
     | some x =>
       cases x <;> simp only [hq] at hc <;> try (cases hc)
       exact PR_goStore p _ hq (h.slot t)
    ·rw [if_neg e]; exact h.slot t
  | box b => rw [setAt_s_box]; exact h.slot t
 have hh1 : ∀ t, nt ≤ t → (Abs.setAt D r (p ++ [o]) y).s t = .dead := by
  intro t ht
  cases r with
  | slot t' =>
    have : t ≠ t' := fun e => by have := hr t' rfl; omega
    simp only [Abs.setAt, if_neg this]
    exact h.high t ht
  | box b => rw [setAt_s_box]; exact h.high t ht
 have ht := setAt_turned (y := y) hl
 cases hn : noRow y with
 | true => exact ⟨h.size, h.defers, fun t => PR_kept (ht.2 hn) (hs1 t), hh1⟩
 | false =>
   simp only [Bool.false_eq_true, if_false]
   refine ⟨h.size, h.defers, fun t => PR_kill (ht.1.trans_kept (mild_kept (f := kill r (p ++ [o])) (kill_mild r (p ++ [o])))) (hs1 t), fun t hh => ?_⟩
   simp only [killAll, hh1 t hh, kill]
theorem keysOf_cons_blk {g cap kk : Nat} {x : Nat × Nat × List V} {l : List RowE} : keysOf ((.blk g cap kk, x) :: l) = g :: keysOf l := rfl
theorem store1_ok {y : V} {E : Env} {nt : Nat} {D : St} {ex : List V} {w : World} {a : Act} (hI : Inv E nt D (y :: ex) w) (hS : SlotsOk E nt D a) {r : Root} {p : List Nat} {o : Nat} {old : V} {u : Value} (hc : canStore D r p = true) (hl : look D r (p ++ [o]) = some old)
 (hr : ∀ t, r = .slot t → t < nt) (hm : MR E.β y u) : ∃ g, contOf E.β D r p = some g ∧ (w.cell? ⟨g, o, none⟩).isSome = true ∧ w.frozen? ⟨g, o, none⟩ = false ∧
  ∀ D', D' = (if noRow y then setAt D r (p ++ [o]) y else killAll (setAt D r (p ++ [o]) y) r (p ++ [o])) →
   Inv E nt D' ex (w.setCell ⟨g, o, none⟩ u) ∧ SlotsOk E nt D' a ∧ To E nt D (y :: ex) w E D' ex (w.setCell ⟨g, o, none⟩ u) := by
 obtain ⟨g, cap, kk, cur, el, h1, h2, h3, ⟨u0, h4, h5⟩, h6⟩ := place_ok hI hc hl hr
 refine ⟨g, h1, by simp [World.cell?, h2, h4], by simp [World.frozen?, h2], fun D' hD' => ?_⟩
 obtain ⟨d, k, n, cs, R, f1, f2, f3, f4⟩ := rows_store (nt := nt) (ex := ex) (y := y) hc hl hr
 have f2' : (rowsD nt D (y :: ex)).Perm ((d, k, n, cs.map sh) :: (rows y ++ (rows old ++ R))) := by
  refine (rowsD_ex nt D y ex).trans ((List.Perm.append_left _ f2).trans List.perm_middle)
 have hd : d = .blk g cap kk := by
  obtain ⟨k2, n2, cs2, R2, e1, e2, e3⟩ := h6 y
  have hrow := hI.rows _ (f2'.mem_iff.2 List.mem_cons_self)
  cases d with
  | nil => rw [show cs = [] from by simpa using hrow.2] at f1; simp at f1
  | emp A => rw [show cs = [] from by simpa using hrow.2] at f1; simp at f1
  | blk g' cap' kk' =>
    have hg' : contOf E.β D r p = some g' := by
     rcases f4 with ⟨b, c, rfl, rfl, hb, hd⟩ | hq
     ·cases hd; simp only [contOf]; rw [hI.box_of hb]
     ·unfold contOf
      cases r with
      | slot t => simp only [hq]
      | box b =>
        cases p with
        | nil => simp [look] at hq; cases hb : getBox D.m b <;> simp [hb] at hq
        | cons i p => simp only [hq]
    rw [h1] at hg'; cases hg'
    have hk := (keysOf_perm f2').nodup_iff.1 hI.nodup
    have m1 : ((.blk g cap kk, k2, n2, cs2.map sh) : RowE) ∈ ((.blk g cap' kk', k, n, cs.map sh) : RowE) :: (rows y ++ (rows old ++ R)) := f2'.mem_iff.1 (e2.mem_iff.2 List.mem_cons_self)
    rcases List.mem_cons.1 m1 with m1 | m1
    ·have := congrArg (fun e : RowE => e.1) m1; exact this.symm
    ·rw [keysOf_cons_blk] at hk
     exact absurd (List.mem_filterMap.2 ⟨(.blk g cap kk, k2, n2, cs2.map sh), m1, rfl⟩ : g ∈ keysOf _) (List.nodup_cons.1 hk).1
 subst hd
 have hk := (keysOf_perm f2').nodup_iff.1 hI.nodup
 rw [keysOf_cons_blk] at hk
 have hk1 := (List.nodup_cons.1 hk).1
 have hk2 := (List.nodup_cons.1 hk).2
 have hsame : ∀ q, q ≠ g → (w.setCell ⟨g, o, none⟩ u).heap[q]? = w.heap[q]? := fun q hq => setCell_heap_other w _ u q hq
 have hnew := setCell_heap_same (o := o) (u := u) h2
 have hrows' : rowsD nt D' ex = rowsD nt (setAt D r (p ++ [o]) y) ex := by
  rw [hD']; split
  ·rfl
  ·exact killAll_rows
 have hatoms' : atomsD nt D' ex = atomsD nt (setAt D r (p ++ [o]) y) ex := by
  rw [hD']; split
  ·rfl
  ·exact killAll_atoms
 have hm' : D'.m = (setAt D r (p ++ [o]) y).m ∧ D'.nx = (setAt D r (p ++ [o]) y).nx := by
  rw [hD']; split <;> exact ⟨rfl, rfl⟩
 obtain ⟨m1, m2, m3⟩ := setAt_m D r (p ++ [o]) y
 have f3' : (rowsD nt D' ex).Perm ((.blk g cap kk, k, n, (cs.set o y).map sh) :: (rows y ++ R)) := by rw [hrows']; exact f3
 have hkeys : ∀ q, q ∈ keysD nt D' ex → q ∈ keysD nt D (y :: ex) := by
  intro q hq
  have := (keysOf_perm f3').mem_iff.1 hq
  refine (keysOf_perm f2').mem_iff.2 ?_
  rw [keysOf_cons_blk] at this ⊢
  rcases List.mem_cons.1 this with h | h
  ·exact List.mem_cons.2 (.inl h)
  ·rw [keysOf_append] at h
   rw [keysOf_append, keysOf_append]
   rcases List.mem_append.1 h with h | h
   ·exact List.mem_cons_of_mem _ (List.mem_append_left _ h)
   ·exact List.mem_cons_of_mem _ (List.mem_append_right _ (List.mem_append_right _ h))
 have hgk : g ∈ keysD nt D (y :: ex) := h3
 have hrowC := hI.rows _ (f2'.mem_iff.2 List.mem_cons_self)
 obtain ⟨q1, q2, q3, q4, q5, cur', el', q6, q7, q8⟩ := hrowC
 rw [h2] at q6; cases q6
 have hinv : Inv E nt D' ex (w.setCell ⟨g, o, none⟩ u) := by
  refine ⟨fun e he => ?_, ?_, fun b hb => ?_, fun e he => ?_, ?_, fun q hq => hI.keysG q (hkeys q hq), fun q hq => hI.newG q (by rw [setCell_size] at hq; exact hq), hI.gpb⟩
  ·rcases List.mem_cons.1 (f3'.mem_iff.1 he) with rfl | he
   ·refine ⟨q1, q2, q3, by simpa using q4, q5, _, _, hnew, by simpa using q7, fun j x hx => ?_⟩
    rw [List.getElem?_map, Option.map_eq_some_iff] at hx
    obtain ⟨z, hz, rfl⟩ := hx
    rw [List.getElem?_set] at hz
    by_cases hj : o = j
    ·subst hj
     have hlt : o < cur.size := (Array.getElem?_eq_some_iff.1 h4).1
     have hol : o < cs.length := (List.getElem?_eq_some_iff.1 f1).1
     simp only [if_true, hol, Option.some.injEq] at hz
     subst hz
     exact ⟨u, by simp [Array.getElem?_setIfInBounds, hlt], MR_sh.2 hm⟩
    ·rw [if_neg hj] at hz
     obtain ⟨u', hu', hm'⟩ := q8 j (sh z) (by rw [List.getElem?_map, hz]; rfl)
     exact ⟨u', by rw [Array.getElem?_setIfInBounds_ne (by omega)]; exact hu', hm'⟩
   ·have hin : e ∈ rowsD nt D (y :: ex) := by
     refine f2'.mem_iff.2 (List.mem_cons_of_mem _ ?_)
     rcases List.mem_append.1 he with he | he
     ·exact List.mem_append_left _ he
     ·exact List.mem_append_right _ (List.mem_append_right _ he)
    refine (hI.rows e hin).ext fun q hq => hsame q fun e' => ?_
    subst e'
    refine hk1 (List.mem_filterMap.2 ⟨e, ?_, hq⟩)
    rcases List.mem_append.1 he with he | he
    ·exact List.mem_append_left _ he
    ·exact List.mem_append_right _ (List.mem_append_right _ he)
  ·refine (keysOf_perm f3').nodup_iff.2 ?_
   rw [keysOf_cons_blk]
   rw [keysOf_append] at hk1 hk2 ⊢
   rw [keysOf_append] at hk1 hk2
   obtain ⟨n1, n2, n3⟩ := List.nodup_append.1 hk2
   obtain ⟨n4, n5, n6⟩ := List.nodup_append.1 n2
   refine List.nodup_cons.2 ⟨fun hh => hk1 ?_, List.nodup_append.2 ⟨n1, n5, fun x hx z hz => n3 x hx z (List.mem_append_right _ hz)⟩⟩
   rcases List.mem_append.1 hh with hh | hh
   ·exact List.mem_append_left _ hh
   ·exact List.mem_append_right _ (List.mem_append_right _ hh)
  ·rw [hatoms'] at hb
   have hb' : b ∈ atomsD nt D (y :: ex) := by
    rcases atoms_setAt hr hb with hb | hb
    ·exact atomsD_ex.2 (.inl hb)
    ·exact atomsD_ex.2 (.inr hb)
   have hn : D'.nx = D.nx := hm'.2.trans m1
   have hf : ∀ {pm A cs'}, FOk E w (fun q => q ∈ keysD nt D (y :: ex)) pm A cs' → FOk E (w.setCell ⟨g, o, none⟩ u) (fun q => q ∈ keysD nt D' ex) pm A cs' := by
    intro pm A cs' hf
    have hf2 := FOk.ext (w' := w.setCell ⟨g, o, none⟩ u) (fun q _ hq => hsame q fun e => hq (by rw [e]; exact hgk)) hf
    exact ⟨hf2.1, hf2.2.1, fun hc' => ⟨(hf2.2.2 hc').1, fun hq => (hf2.2.2 hc').2 (hkeys _ hq)⟩⟩
   have h0 := hI.atoms b hb'
   cases b with
   | p b => rw [hn]; exact h0
   | i pm A cap n cs' =>
     refine ⟨h0.1, ?_⟩
     have h2 := h0.2
     cases A with
     | none => exact h2
     | some a => exact hf h2
   | f pm A cs' => exact hf h0
  ·rw [hm'.1] at he
   obtain ⟨e0, he0, g1, g2⟩ := m3 e he
   have := hI.boxes e0 he0
   rw [← g1, ← g2, hm'.2, m1]; exact this
  ·rw [hm'.1, m2]; exact hI.ids
 refine ⟨hinv, by rw [hD']; exact hS.store hc hl hr, fun _ _ => rfl, rfl, rfl, by rw [hm'.2, m1]; exact Nat.le_refl _, by rw [setCell_size]; exact Nat.le_refl _, fun q hq => .inl (hkeys q hq), fun q _ hq => hsame q fun e => hq (by rw [e]; exact hgk), rfl, rfl, rfl⟩
theorem hd_oneCell {β : Nat → Nat} {y : V} {u : Value} (h : hd β y = some u) : u.oneCell' = true := by
 cases y <;> simp only [hd] at h <;> first
  | (cases h; done)
  | (cases h; rfl)
  | skip
 case own d k n cs => cases d <;> (cases h; rfl)
 case fn f a b =>
  split at h
  ·split at h
   ·cases h; rfl
   ·cases h
  ·cases h
theorem cellIn_hd {β : Nat → Nat} {D : St} {v : V} {u : Value} (h : cellIn v = true) (hu : PR β D v u) : hd β v = some u := by
 cases v <;> first | exact hu | exact solid_hd (by simpa [cellIn] using h) hu
theorem canStore_lt {E : Env} {nt : Nat} {D : St} {a : Act} (hS : SlotsOk E nt D a) {r : Root} {p : List Nat} (h : canStore D r p = true) : ∀ t, r = .slot t → t < nt := by
 intro t e
 subst e
 simp only [canStore] at h
 cases hl : look D (.slot t) p with
 | none => rw [hl] at h; cases h
 | some x =>
   cases x <;> simp only [hl] at h <;> try (cases h)
   exact hS.lt hl t rfl
theorem go_goStore : ∀ (p : List Nat) (v : V) {o : Nat} {d : Dec} {k n : Nat} {cs : List V} {y : V}, go p v = some (.own d k n cs) → ∃ cs', go p (goSet (p ++ [o]) y v) = some (.own d k n cs')
 | [], v, o, d, k, n, cs, y, h => by simp only [go, Option.some.injEq] at h; subst h; exact ⟨_, rfl⟩
 | i :: p, .own d' k' n' l, o, d, k, n, cs, y, h => by
   simp only [go] at h
   cases hz : l[i]? with
   | none => simp [hz] at h
   | some z =>
     simp only [hz] at h
     obtain ⟨cs', h'⟩ := go_goStore p z (o := o) (y := y) h
     refine ⟨cs', ?_⟩
     have hi : i < l.length := (List.getElem?_eq_some_iff.1 hz).1
     simp only [List.cons_append, goSet, hz, go, List.getElem?_set_self hi]; exact h'
 | i :: p, .agg l, o, d, k, n, cs, y, h => by
   simp only [go] at h
   cases hz : l[i]? with
   | none => simp [hz] at h
   | some z =>
     simp only [hz] at h
     obtain ⟨cs', h'⟩ := go_goStore p z (o := o) (y := y) h
     refine ⟨cs', ?_⟩
     have hi : i < l.length := (List.getElem?_eq_some_iff.1 hz).1
     simp only [List.cons_append, goSet, hz, go, List.getElem?_set_self hi]; exact h'
 | i :: p, .tup l, o, d, k, n, cs, y, h => by
   simp only [go] at h
   cases hz : l[i]? with
   | none => simp [hz] at h
   | some z =>
     simp only [hz] at h
     obtain ⟨cs', h'⟩ := go_goStore p z (o := o) (y := y) h
     refine ⟨cs', ?_⟩
     have hi : i < l.length := (List.getElem?_eq_some_iff.1 hz).1
     simp only [List.cons_append, goSet, hz, go, List.getElem?_set_self hi]; exact h'
 | _ :: _, .int _ _, _, _, _, _, _, _, h | _ :: _, .bool _, _, _, _, _, _, _, h | _ :: _, .nilp, _, _, _, _, _, _, h | _ :: _, .nilf, _, _, _, _, _, _, h | _ :: _, .bptr _ _, _, _, _, _, _, _, h
 | _ :: _, .ip _ _ _, _, _, _, _, _, _, h | _ :: _, .im _ _ _ _ _, _, _, _, _, _, _, h | _ :: _, .fn _ _ _, _, _, _, _, _, _, h | _ :: _, .ref _ _, _, _, _, _, _, _, h | _ :: _, .loc _ _, _, _, _, _, _, _, h | _ :: _, .dead, _, _, _, _, _, _, h => by
   simp [go] at h
mutual
theorem kill_look (r : Root) (p : List Nat) : ∀ (v : V) (q : List Nat) {d : Dec} {k n : Nat} {cs : List V}, go q v = some (.own d k n cs) → go q (kill r p v) = some (.own d k n cs)
 | .agg l, q, d, k, n, cs, h => by
   cases q with
   | nil => simp [go] at h
   | cons o q => simp only [kill, go] at h ⊢; exact killL_look r p l o q h
 | .tup l, q, d, k, n, cs, h => by
   cases q with
   | nil => simp [go] at h
   | cons o q => simp only [kill, go] at h ⊢; exact killL_look r p l o q h
 | .ref _ _, q, _, _, _, _, h | .loc _ _, q, _, _, _, _, h | .fn _ _ _, q, _, _, _, _, h => by cases q <;> simp [go] at h
 | .dead, q, _, _, _, _, h | .int _ _, q, _, _, _, _, h | .bool _, q, _, _, _, _, h | .nilp, q, _, _, _, _, h | .nilf, q, _, _, _, _, h | .bptr _ _, q, _, _, _, _, h | .ip _ _ _, q, _, _, _, _, h
 | .im _ _ _ _ _, q, _, _, _, _, h | .own _ _ _ _, q, _, _, _, _, h => h
theorem killL_look (r : Root) (p : List Nat) : ∀ (l : List V) (o : Nat) (q : List Nat) {d : Dec} {k n : Nat} {cs : List V}, (match l[o]? with | some y => go q y | none => none) = some (.own d k n cs) →
 (match (killL r p l)[o]? with | some y => go q y | none => none) = some (.own d k n cs)
 | [], o, q, _, _, _, _, h => by simp at h
 | v :: l, 0, q, _, _, _, _, h => by simp only [killL, List.getElem?_cons_zero] at h ⊢; exact kill_look r p v q h
 | v :: l, o + 1, q, _, _, _, _, h => by simp only [killL, List.getElem?_cons_succ] at h ⊢; exact killL_look r p l o q h
end
theorem look_store {D : St} {r : Root} {p : List Nat} {o : Nat} {y : V} {d : Dec} {k n : Nat} {cs : List V} (h : look D r p = some (.own d k n cs)) : ∃ cs', look (if noRow y then setAt D r (p ++ [o]) y else killAll (setAt D r (p ++ [o]) y) r (p ++ [o])) r p = some (.own d k n cs') := by
 have h1 : ∃ cs', look (setAt D r (p ++ [o]) y) r p = some (.own d k n cs') := by
  cases r with
  | slot t =>
    obtain ⟨cs', h'⟩ := go_goStore p (D.s t) (o := o) (y := y) h
    exact ⟨cs', by simp only [look, setAt, if_true]; exact h'⟩
  | box b =>
    simp only [look] at h
    cases hb : getBox D.m b with
    | none => rw [hb] at h; simp at h
    | some c =>
      rw [hb] at h
      cases p with
      | nil => simp at h
      | cons i p =>
        simp only at h
        cases hc : c.cs[i]? with
        | none => rw [hc] at h; simp at h
        | some z =>
          rw [hc] at h
          obtain ⟨cs', h'⟩ := go_goStore p z (o := o) (y := y) h
          refine ⟨cs', ?_⟩
          have hi : i < c.cs.length := (List.getElem?_eq_some_iff.1 hc).1
          simp only [List.cons_append, look, setAt, hb, getBox_setBox hb, if_true, hc, List.getElem?_set_self hi]; exact h'
 obtain ⟨cs', h1⟩ := h1
 split
 ·exact ⟨cs', h1⟩
 ·refine ⟨cs', ?_⟩
  cases r with
  | slot t => simp only [look, killAll] at h1 ⊢; exact kill_look _ _ _ _ h1
  | box b => exact h1
theorem contOf_store {β : Nat → Nat} {D : St} {r : Root} {p : List Nat} {o g : Nat} {y : V} (hc : canStore D r p = true) (h : contOf β D r p = some g) : contOf β (if noRow y then setAt D r (p ++ [o]) y else killAll (setAt D r (p ++ [o]) y) r (p ++ [o])) r p = some g := by
 have key : ∀ x, look D r p = some x → (match look D r p with | some (.own (.blk g _ _) _ _ _) => some g | _ => none : Option Nat) = some g → (match look (if noRow y then setAt D r (p ++ [o]) y else killAll (setAt D r (p ++ [o]) y) r (p ++ [o])) r p with | some (.own (.blk g _ _) _ _ _) => some g | _ => none : Option Nat) = some g := by
  intro x hx hm
  rw [hx] at hm
  split at hm
  ·rename_i g' c1 c2 c3 c4 c5 hh
   cases hh
   obtain ⟨cs', h'⟩ := look_store (o := o) (y := y) hx
   rw [h']; exact hm
  ·cases hm
 unfold contOf at h ⊢
 cases r with
 | slot t =>
   simp only at h ⊢
   cases hl : look D (.slot t) p with
   | none => rw [hl] at h; cases h
   | some x => exact key x hl h
 | box b =>
   cases p with
   | nil => exact h
   | cons i p =>
     simp only at h ⊢
     cases hl : look D (.box b) (i :: p) with
     | none => rw [hl] at h; cases h
     | some x => exact key x hl h
theorem add_mk (g o i : Nat) : (⟨g, o, none⟩ : Addr).add i = ⟨g, o + i, none⟩ := by
 unfold Addr.add; split
 ·rename_i h; subst h; rfl
 ·rfl
theorem storeAt_ok {P : Program} {E : Env} {nt : Nat} {ex : List V} {a : Act} {r : Root} {p : List Nat} {g o0 : Nat} : ∀ {l : List V} {us : List Value} {i : Nat} {D D' : St} {w : World}, storeAt D r p (o0 + i) l = some D' → (l = [] ∨ contOf E.β D r p = some g) →
 Inv E nt D (l ++ ex) w → SlotsOk E nt D a → (∀ D, PRL E.β D l us) → ∃ w', (storeCells ⟨g, o0, none⟩ us i).run P w = .ok () w' ∧ Inv E nt D' ex w' ∧ SlotsOk E nt D' a ∧ To E nt D (l ++ ex) w E D' ex w'
 | [], us, i, D, D', w, h, hg, hI, hS, hu => by
   simp only [storeAt, Option.some.injEq] at h
   subst h
   have := hu D
   simp only [PRL] at this
   subst this
   exact ⟨w, rfl, hI, hS, To.refl _ _ _ _ _⟩
 | y :: l, us, i, D, D', w, h, hg, hI, hS, hu => by
   simp only [storeAt] at h
   cases hl : look D r (p ++ [o0 + i]) with
   | none => rw [hl] at h; cases h
   | some old =>
     rw [hl] at h
     simp only at h
     split at h
     ·rename_i hck
      rw [Bool.and_eq_true] at hck
      have hg := hg.resolve_left (by simp)
      obtain ⟨u, us', rfl, hu1, _⟩ := hu D
      have hu2 : ∀ D, PRL E.β D l us' := fun D => by obtain ⟨u', us'', e, _, h2⟩ := hu D; cases e; exact h2
      have hhd := cellIn_hd hck.1 hu1
      have hr := canStore_lt hS hck.2
      obtain ⟨g', h1, h2, h3, h4⟩ := store1_ok (y := y) (ex := l ++ ex) hI hS hck.2 hl hr (.inl hhd)
      rw [hg] at h1; cases h1
      obtain ⟨hI2, hS2, hT2⟩ := h4 _ rfl
      obtain ⟨w', h5, h6, h7, h8⟩ := storeAt_ok (i := i + 1) h (.inr (contOf_store hck.2 hg)) hI2 hS2 hu2
      refine ⟨w', ?_, h6, h7, hT2.trans h8⟩
      obtain ⟨v0, hv0⟩ := Option.isSome_iff_exists.1 h2
      simp only [storeCells, Sem.run_bind, run_store _ _ _ _ _ (hd_oneCell hhd), add_mk, hv0, h3, Bool.false_eq_true, if_false]
      exact h5
     ·cases h
theorem loadAt_ok {P : Program} {E : Env} {nt : Nat} {ex : List V} {a : Act} {r : Root} {p : List Nat} {g o0 : Nat} {D : St} {w : World} (hI : Inv E nt D ex w) (hS : SlotsOk E nt D a) : ∀ {k i : Nat} {l : List V} (acc : Array Value), loadAt D r p (o0 + i) k = some l →
 (k = 0 ∨ contOf E.β D r p = some g) → ∃ us, (loadCellsFrom ⟨g, o0, none⟩ i k acc).run P w = .ok (acc ++ us.toArray) w ∧ us.length = k ∧ PRL E.β D l us ∧ (∀ b ∈ atomsL l, b ∈ atomsD nt D ex) ∧ noRowL l = true ∧ ∀ j u, us[j]? = some u → w.cell? ⟨g, o0 + i + j, none⟩ = some u
 | 0, i, l, acc, h, hg => by
   simp only [loadAt, Option.some.injEq] at h
   subst h
   exact ⟨[], by simp [loadCellsFrom], rfl, rfl, fun b hb => by simp [atomsL] at hb, rfl, fun j u hu => by simp at hu⟩
 | k + 1, i, l, acc, h, hg => by
   simp only [loadAt] at h
   cases hl : look D r (p ++ [o0 + i]) with
   | none => rw [hl] at h; cases h
   | some x =>
     rw [hl] at h
     simp only at h
     split at h
     ·rename_i hck
      cases hl2 : loadAt D r p (o0 + i + 1) k with
      | none => rw [hl2] at h; cases h
      | some l2 =>
        rw [hl2] at h
        cases h
        have hg := hg.resolve_left (by simp)
        have hr := canStore_lt hS hck
        obtain ⟨g', cap, kk, cur, el, h1, h2, h3, ⟨u, h4, h5⟩, h6⟩ := place_ok hI hck hl hr
        rw [hg] at h1; cases h1
        have hcell : w.cell? ⟨g, o0 + i, none⟩ = some u := by simp [World.cell?, h2, h4]
        obtain ⟨us, e1, e2, e3, e4, e5, e6⟩ := loadAt_ok (P := P) hI hS (k := k) (i := i + 1) (acc.push u) hl2 (.inr hg)
        refine ⟨u :: us, ?_, by simp [e2], ⟨u, us, rfl, PR_view hl (MR_PR h5), e3⟩, fun b hb => ?_, by simp [noRowL, noRow_view, e5], fun j v hv => ?_⟩
        ·simp only [loadCellsFrom, Sem.run_bind, run_load, add_mk, hcell]
         have he : acc.push u ++ us.toArray = acc ++ (u :: us).toArray := by rw [← Array.toList_inj]; simp
         rw [← he]; exact e1
        ·rcases List.mem_append.1 hb with hb | hb
         ·exact atoms_look hr hl (atoms_view _ _ _ hb)
         ·exact e4 b hb
        ·cases j with
         | zero => simp at hv; subst hv; exact hcell
         | succ j => simp at hv; have := e6 j v hv; rw [show o0 + i + (j + 1) = o0 + (i + 1) + j by omega]; exact this
     ·cases h
theorem target_addr {β : Nat → Nat} {D : St} {va : V} {r : Root} {p : List Nat} {o g : Nat} {u : Value} (ht : target va = some (r, p, o)) (hu : PR β D va u) (hg : contOf β D r p = some g) : u = .pointer (some ⟨g, o, none⟩) := by
 cases va <;> simp only [target] at ht <;> try (cases ht)
 case bptr => simp only [contOf, Option.some.injEq] at hg; subst hg; exact hu
 case loc r' q =>
  cases hl : q.getLast? with
  | none => rw [hl] at ht; cases ht
  | some o' =>
    rw [hl] at ht
    cases r' with
    | slot t =>
      simp only [Option.some.injEq, Prod.mk.injEq] at ht
      obtain ⟨rfl, rfl, rfl⟩ := ht
      refine hu _ ?_
      simp only [contOf] at hg
      simp only [addrOf, hl]
      split at hg
      ·rename_i g' c1 c2 c3 c4 c5 hh
       cases hg; rw [hh]
      ·cases hg
    | box b =>
      simp only at ht
      cases hd : q.dropLast with
      | nil => rw [hd] at ht; cases ht
      | cons x q' =>
        rw [hd] at ht
        simp only [Option.some.injEq, Prod.mk.injEq] at ht
        obtain ⟨rfl, rfl, rfl⟩ := ht
        refine hu _ ?_
        simp only [contOf] at hg
        simp only [addrOf, hl, hd]
        split at hg
        ·rename_i g' c1 c2 c3 c4 c5 hh
         cases hg; rw [hh]
        ·cases hg
theorem SmL.get {l l' : List V} (h : SmL l l') : ∀ j : Nat, (l[j]? = none ∧ l'[j]? = none) ∨ ∃ x x', l[j]? = some x ∧ l'[j]? = some x' ∧ Sm x x' := by
 intro j
 induction l generalizing l' j with
 | nil => cases h; exact .inl ⟨by simp, by simp⟩
 | cons v l ih =>
   cases h with
   | cons h k =>
     cases j with
     | zero => exact .inr ⟨_, _, rfl, rfl, h⟩
     | succ j => simpa using ih k j
theorem SmL.length {l l' : List V} (h : SmL l l') : l'.length = l.length := by
 induction l generalizing l' with
 | nil => cases h; rfl
 | cons v l ih => cases h with | cons h k => simp [ih k]
theorem SmL.append {a b a' b' : List V} (h : SmL a b) (k : SmL a' b') : SmL (a ++ a') (b ++ b') := by
 induction a generalizing b with
 | nil => cases h; exact k
 | cons v l ih => cases h with | cons h1 h2 => exact .cons h1 (ih h2)
theorem SmL.set {l l' : List V} (h : SmL l l') {x x' : V} (hx : Sm x x') : ∀ j, SmL (l.set j x) (l'.set j x') := by
 intro j
 induction l generalizing l' j with
 | nil => cases h; exact .nil
 | cons v l ih =>
   cases h with
   | cons h k =>
     cases j with
     | zero => exact .cons hx k
     | succ j => exact .cons h (ih k j)
theorem SmL.take {l l' : List V} (h : SmL l l') : ∀ j, SmL (l.take j) (l'.take j) := by
 intro j
 induction l generalizing l' j with
 | nil => cases h; simp; exact .nil
 | cons v l ih =>
   cases h with
   | cons h k =>
     cases j with
     | zero => exact .nil
     | succ j => exact .cons h (ih k j)
theorem SmL.drop {l l' : List V} (h : SmL l l') : ∀ j, SmL (l.drop j) (l'.drop j) := by
 intro j
 induction l generalizing l' j with
 | nil => cases h; simp; exact .nil
 | cons v l ih =>
   cases h with
   | cons h k =>
     cases j with
     | zero => exact .cons h k
     | succ j => exact ih k j
theorem boxRows_append : ∀ (m m' : List (Nat × Box)), boxRows (m ++ m') = boxRows m ++ boxRows m'
 | [], _ => rfl
 | (i, c) :: m, m' => by simp [boxRows, boxRows_append m m']
theorem boxAtoms_append : ∀ (m m' : List (Nat × Box)), boxAtoms (m ++ m') = boxAtoms m ++ boxAtoms m'
 | [], _ => rfl
 | (i, c) :: m, m' => by simp [boxAtoms, boxAtoms_append m m']
theorem getBox_append : ∀ (m : List (Nat × Box)) (i : Nat) (c : Box) (b : Nat), getBox (m ++ [(i, c)]) b = match getBox m b with | some x => some x | none => if i = b then some c else none
 | [], i, c, b => by simp [getBox]
 | (j, c') :: m, i, c, b => by
   simp only [List.cons_append, getBox]
   by_cases e : j = b
   ·simp [e]
   ·simp only [if_neg e]; exact getBox_append m i c b
theorem Inv.dropL {E : Env} {nt : Nat} {D : St} {ex : List V} {w : World} : ∀ {cs : List V}, Inv E nt D (cs ++ ex) w → Inv E nt D ex w
 | [], h => h
 | _ :: cs, h => Inv.dropL (cs := cs) h.drop
theorem newBox_ok {E : Env} {nt : Nat} {D : St} {cs ex : List V} {w : World} {a : Act} {us : List Value} {el : TypeId} (hI : Inv E nt D (cs ++ ex) w) (hS : SlotsOk E nt D a) (hne : cs ≠ []) (hu : ∀ (j : Nat) (x : V), cs[j]? = some x → ∃ u, us[j]? = some u ∧ MR E.β x u) (hl : us.length = cs.length) :
 ∃ E', E'.β D.nx = w.heap.size ∧ Inv E' nt (D.newAt w.heap.size cs) ex (w.alloc (.cells us.toArray el)) ∧ SlotsOk E' nt (D.newAt w.heap.size cs) a ∧ To E nt D (cs ++ ex) w E' (D.newAt w.heap.size cs) ex (w.alloc (.cells us.toArray el)) ∧ SmS (D.new cs) (D.newAt w.heap.size cs) := by
 have hkk : 0 < cs.length := List.length_pos_iff.2 hne
 have h1 : Inv E nt D (.own (.blk w.heap.size 1 cs.length) 0 1 cs :: ex) (w.alloc (.cells us.toArray el)) :=
  hI.newRow (el := el) (Nat.le_refl 1) (by omega) hkk (by omega) (.inl (by omega)) (by simp [hl]) (fun j x hx => by simpa using hu j x hx)
 have hβ : ∀ b, b < D.nx → (fun b => if b = D.nx then w.heap.size else E.β b) b = E.β b := fun b hb => by simp only; rw [if_neg (by omega)]
 refine ⟨E.at (fun b => if b = D.nx then w.heap.size else E.β b), by simp [Env.at], ?_⟩
 have h2 := h1.beta hβ
 let D1 : St := { D with m := D.m ++ [(D.nx, ⟨w.heap.size, cs⟩)], nx := D.nx + 1 }
 have hrow : rowsD nt (D.newAt w.heap.size cs) ex = rowsD nt D1 ex := killAll_rows
 have hatm : atomsD nt (D.newAt w.heap.size cs) ex = atomsD nt D1 ex := killAll_atoms
 have hp : (rowsD nt (D.newAt w.heap.size cs) ex).Perm (rowsD nt D (.own (.blk w.heap.size 1 cs.length) 0 1 cs :: ex)) := by
  rw [hrow]
  unfold rowsD
  simp only [D1, boxRows_append, boxRows, rowsL, Abs.rows, boxRow, List.append_nil, List.append_assoc]
  exact List.Perm.refl _
 have hk : ∀ k, k ∈ keysD nt (D.newAt w.heap.size cs) ex ↔ k ∈ keysD nt D (.own (.blk w.heap.size 1 cs.length) 0 1 cs :: ex) := fun k => (keysOf_perm hp).mem_iff
 have hnk : ∀ b, b < D.nx → b ≠ D.nx := fun b hb => by omega
 have hinv : Inv (E.at (fun b => if b = D.nx then w.heap.size else E.β b)) nt (D.newAt w.heap.size cs) ex (w.alloc (.cells us.toArray el)) := by
  refine ⟨fun e he => h2.rows e (hp.mem_iff.1 he), (keysOf_perm hp).nodup_iff.2 h2.nodup, fun b hb => ?_, fun e he => ?_, ?_, fun k hk' => h2.keysG k ((hk k).1 hk'), h2.newG, h2.gpb⟩
  ·rw [hatm] at hb
   refine (h2.atoms b ?_).mono (Nat.le_succ _) (fun k => (hk k).1)
   unfold atomsD at hb ⊢
   simp only [D1, boxAtoms_append, boxAtoms, atomsL, atoms, List.append_nil, List.append_assoc] at hb ⊢
   exact hb
  ·have he' : e ∈ D.m ++ [(D.nx, (⟨w.heap.size, cs⟩ : Box))] := he
   rcases List.mem_append.1 he' with he' | he'
   ·obtain ⟨g1, g2⟩ := h2.boxes e he'
    exact ⟨g1, Nat.lt_succ_of_lt g2⟩
   ·simp only [List.mem_singleton] at he'
    subst he'
    exact ⟨by simp [Env.at], Nat.lt_succ_self _⟩
  ·show ((D.m ++ [(D.nx, (⟨w.heap.size, cs⟩ : Box))]).map (·.1)).Nodup
   rw [List.map_append]
   refine List.nodup_append.2 ⟨hI.ids, by simp, fun x hx y hy => ?_⟩
   simp only [List.map_cons, List.map_nil, List.mem_singleton] at hy
   subst hy
   obtain ⟨e, he, rfl⟩ := List.mem_map.1 hx
   exact hnk _ (hI.boxes e he).2
 refine ⟨hinv, ?_, ?_, ?_⟩
 ·have hS1 := hS.beta hI.dropL hβ
  have ht : Turned D D1 (.box D.nx) [] := by
   intro r' q d k n l hq
   cases r' with
   | slot t => exact .inr ⟨l, hq⟩
   | box b =>
     simp only [look, D1, getBox_append] at hq
     cases hb : getBox D.m b with
     | some c => exact .inr ⟨l, by rw [hb] at hq; simp only [look, hb]; exact hq⟩
     | none =>
       rw [hb] at hq
       by_cases e : D.nx = b
       ·exact .inl (by simp [hitRef, pre, e])
       ·simp [if_neg e] at hq
  refine ⟨hS1.size, hS1.defers, fun t => ?_, fun t hh => ?_⟩
  ·exact PR_kill (ht.trans_kept (mild_kept (f := kill (.box D.nx) []) (kill_mild (.box D.nx) []))) (hS1.slot t)
  ·simp only [St.newAt, killAll, hS.high t hh, kill]
 ·refine ⟨hβ, rfl, rfl, Nat.le_succ _, by simp, fun k hk' => ?_, fun k hk' _ => ?_, rfl, rfl, rfl⟩
  ·have := (hk k).1 hk'
   rw [show keysD nt D _ = keysOf (rowsD nt D _) from rfl, (keysOf_perm (rowsD_ex nt D _ ex)).mem_iff, keysOf_append] at this
   simp only [Abs.rows, keysOf_cons_blk, List.cons_append, List.mem_cons] at this
   rcases this with rfl | this
   ·exact .inr (Nat.le_refl _)
   ·left
    rcases List.mem_append.1 this with h | h
    ·obtain ⟨e, he, hk2⟩ := List.mem_filterMap.1 h
     refine List.mem_filterMap.2 ⟨e, ?_, hk2⟩
     unfold rowsD; rw [rowsL_append]
     exact List.mem_append_right _ (List.mem_append_right _ (List.mem_append_left _ he))
    ·obtain ⟨e, he, hk2⟩ := List.mem_filterMap.1 h
     refine List.mem_filterMap.2 ⟨e, ?_, hk2⟩
     unfold rowsD at he ⊢; rw [rowsL_append]
     rcases List.mem_append.1 he with he | he
     ·exact List.mem_append_left _ he
     rcases List.mem_append.1 he with he | he
     ·exact List.mem_append_right _ (List.mem_append_left _ he)
     ·exact List.mem_append_right _ (List.mem_append_right _ (List.mem_append_right _ he))
  ·first | exact heap_alloc_old w _ k hk' | exact heap_alloc_old w _ hk'
 ·refine ⟨fun i => Sm.refl _, ?_, rfl⟩
  exact SmM.append (SmM.refl _) (.cons (SmL.refl _) .nil)
end Go.Abs
end
