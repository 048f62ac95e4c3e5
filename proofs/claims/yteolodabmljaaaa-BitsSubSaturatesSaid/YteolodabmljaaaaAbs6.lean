/- Joined: AbsAQ AbsAR AbsAS AbsAV AbsAW AbsAX AbsAY. -/
import Derived.Test.YteolodabmljaaaaAbs5
import Derived.OrdersHeld
set_option linter.all false
/- The evaluator respects 'the same but for the decorations': one operation, the rest. -/
set_option linter.unusedVariables false
noncomputable section
namespace Go.Abs
open Go

variable {P : Program} {H : Hint}
section
variable {C : Callee} {fz : Bool} {o : Oper} {D D' : St} (hX : XSm H) (hC : CSm C) (h : SmS D D')
include h

theorem sm_pick {c a b : Operand} (ho : o.op = .pick c a b) : OptR SmS (evOp P H C fz o D) (evOp P H C fz o D') := by
  have E : ∀ x, OptR Sm (ev H D x) (ev H D' x) := fun x => ev_sm h x
  unfold evOp
  simp only [ho]
  have h1 := E c
  generalize ev H D c = y1 at h1
  generalize ev H D' c = y1' at h1
  cases h1 with
  | none => exact .none
  | some hv =>
    have ha := E a
    have hb := E b
    generalize ev H D a = ya at ha
    generalize ev H D' a = ya' at ha
    generalize ev H D b = yb at hb
    generalize ev H D' b = yb' at hb
    cases hv with
    | bool t =>
      cases ha with
      | none =>
        cases hb with
        | none => cases t <;> exact .none
        | some hb => cases t <;> first | exact .none | exact .some (lay_sm h hb o.dst)
      | some ha =>
        cases hb with
        | none => cases ha <;> cases t <;> first | exact .none | exact .some (lay_sm h (by first | exact Sm.refl _ | (constructor <;> assumption)) o.dst)
        | some hb => cases ha <;> cases hb <;> cases t <;> first | exact .some (lay_sm h (Sm.refl _) o.dst) | exact .some (lay_sm h (by constructor <;> assumption) o.dst)
    | _ => exact .none

theorem sm_store {t : TypeId} {a x : Operand} (ho : o.op = .store t a x) : OptR SmS (evOp P H C fz o D) (evOp P H C fz o D') := by
  have E : ∀ x, OptR Sm (ev H D x) (ev H D' x) := fun x => ev_sm h x
  unfold evOp
  simp only [ho]
  have h1 := E x
  generalize ev H D x = y1 at h1
  generalize ev H D' x = y1' at h1
  cases h1 with
  | none => exact .none
  | some hv =>
    have k := settle_sm fz hv h
    simp only
    generalize settle fz _ D = z at k
    generalize settle fz _ D' = z' at k
    cases k with
    | none => exact .none
    | @some z z' hp =>
      obtain ⟨y, D1⟩ := z
      obtain ⟨y', D1'⟩ := z'
      obtain ⟨hy, hS⟩ := hp
      simp only at hy hS ⊢
      have hc := cells_sm hy
      have e1 : (y'.cells ≠ []) ↔ (y.cells ≠ []) := by rw [← List.length_pos_iff, ← List.length_pos_iff, hc.length]
      have h2 := ev_sm (H := H) hS a
      generalize ev H D1 a = w at h2
      generalize ev H D1' a = w' at h2
      cases h2 with
      | none => exact .none
      | some hw =>
        simp only [target_sm hw, hc.length, e1]
        split
        · rename_i r p j _
          split
          · have h3 := storeAt_sm r p j hc hS
            generalize storeAt D1 r p j y.cells = q at h3
            generalize storeAt D1' r p j y'.cells = q' at h3
            cases h3 with
            | none => exact .none
            | some hq => exact .some (lay_sm hq .dead o.dst)
          · exact .none
        · exact .none

theorem sm_makeFunc {f : Fn} {a b : Array Operand} (ho : o.op = .makeFunc f a b) : OptR SmS (evOp P H C fz o D) (evOp P H C fz o D') := by
  have E : ∀ x, OptR Sm (ev H D x) (ev H D' x) := fun x => ev_sm h x
  unfold evOp
  simp only [ho]
  have h1 := evL_sm (H := H) h a.toList
  generalize evL H D a.toList = x at h1
  generalize evL H D' a.toList = x' at h1
  have h2 := evL_sm (H := H) h b.toList
  generalize evL H D b.toList = y at h2
  generalize evL H D' b.toList = y' at h2
  cases h1 with
  | none => exact .none
  | some ha =>
    cases h2 with
    | none => exact .none
    | some hb => exact .some (lay_sm h (.fn ha hb) o.dst)

theorem sm_makeSlice {t : TypeId} {l c : Operand} (ho : o.op = .makeSlice t l c) : OptR SmS (evOp P H C fz o D) (evOp P H C fz o D') := by
  have E : ∀ x, OptR Sm (ev H D x) (ev H D' x) := fun x => ev_sm h x
  unfold evOp
  simp only [ho]
  have h1 := E l
  have h2 := E c
  generalize ev H D l = x at h1
  generalize ev H D' l = x' at h1
  generalize ev H D c = y at h2
  generalize ev H D' c = y' at h2
  cases P.underlying t with
  | none => exact .none
  | some d =>
    cases h1 with
    | none => cases d <;> exact .none
    | some ha =>
      cases h2 with
      | none => cases d <;> cases ha <;> exact .none
      | some hb =>
        cases d <;> cases ha <;> cases hb <;> try exact .none
        simp only
        split
        · split
          · exact .some (lay_sm h (Sm.refl _) o.dst)
          · exact .none
        · exact .none

theorem sm_slice {t : TypeId} {x : Operand} {lo hi mx : Option Operand} (ho : o.op = .slice t x lo hi mx) : OptR SmS (evOp P H C fz o D) (evOp P H C fz o D') := by
  have E : ∀ x, OptR Sm (ev H D x) (ev H D' x) := fun x => ev_sm h x
  unfold evOp
  simp only [ho]
  have h1 := E x
  generalize ev H D x = y1 at h1
  generalize ev H D' x = y1' at h1
  simp only [evI_sm h lo, evI_sm h hi, evI_sm h mx]
  cases h1 with
  | none => cases P.underlying t with
    | none => exact .none
    | some d => cases d <;> exact .none
  | some hv =>
    cases P.underlying t with
    | none => exact .none
    | some d =>
      cases d <;> try exact .none
      rename_i e
      cases evI H D lo with
      | none => exact .none
      | some l =>
        cases evI H D hi with
        | none => exact .none
        | some hh =>
          cases evI H D mx with
          | none => exact .none
          | some m =>
            have k := takeC_sm h hv
            simp only
            generalize takeC D _ = z at k
            generalize takeC D' _ = z' at k
            cases k with
            | none => cases sizeT P _ <;> exact .none
            | @some z z' hp =>
              obtain ⟨y, D1⟩ := z
              obtain ⟨y', D1'⟩ := z'
              obtain ⟨hy, hS⟩ := hp
              simp only at hy hS ⊢
              cases sizeT P _ with
              | none => exact .none
              | some q =>
                simp only
                have k2 := cutV_sm q l hh m hy
                generalize cutV q l hh m y = w at k2
                generalize cutV q l hh m y' = w' at k2
                cases k2 with
                | none => exact .none
                | some hw => exact .some (lay_sm hS hw o.dst)

theorem sm_index {t : TypeId} {x ix : Operand} (ho : o.op = .index t x ix) : OptR SmS (evOp P H C fz o D) (evOp P H C fz o D') := by
  have E : ∀ x, OptR Sm (ev H D x) (ev H D' x) := fun x => ev_sm h x
  unfold evOp
  simp only [ho]
  have h1 := E x
  have h2 := E ix
  split
  · rename_i s _
    generalize ev H D ix = y2 at h2
    generalize ev H D' ix = y2' at h2
    cases P.underlying t with
    | none => exact .none
    | some d =>
      cases h2 with
      | none => cases d <;> exact .none
      | some hb =>
        cases d <;> cases hb <;> try exact .none
        simp only
        split
        · split
          · exact .some (lay_sm h (Sm.refl _) o.dst)
          · exact .none
        · exact .none
  generalize ev H D x = y1 at h1
  generalize ev H D' x = y1' at h1
  generalize ev H D ix = y2 at h2
  generalize ev H D' ix = y2' at h2
  cases P.underlying t with
  | none => exact .none
  | some d =>
    cases h1 with
    | none => cases d <;> exact .none
    | some ha =>
      cases h2 with
      | none => cases d <;> cases ha <;> exact .none
      | some hb =>
        cases d <;> cases ha <;> cases hb <;> try exact .none
        rename_i n e _ _ hc _ i
        simp only
        split
        · rename_i k _
          split
          · have k2 := partV_sm (P := P) e hc (i.toNat * k)
            generalize partV P e _ (i.toNat * k) = w at k2
            generalize partV P e _ (i.toNat * k) = w' at k2
            cases k2 with
            | none => exact .none
            | some hw => exact .some (lay_sm h hw o.dst)
          · exact .none
        · exact .none

theorem sm_build {t : TypeId} {ps : Array (Nat × Operand)} (ho : o.op = .build t ps) : OptR SmS (evOp P H C fz o D) (evOp P H C fz o D') := by
  have E : ∀ x, OptR Sm (ev H D x) (ev H D' x) := fun x => ev_sm h x
  unfold evOp
  simp only [ho]
  have h1 := evParts_sm (H := H) h ps.toList
  generalize evParts H D ps.toList = x at h1
  generalize evParts H D' ps.toList = x' at h1
  cases hz : zeroT P t with
  | none => exact .none
  | some z =>
    cases h1 with
    | none => exact .none
    | some hp =>
      have F : ∀ place, OptR SmL (fillV place z _) (fillV place z _) := fun place => fillV_sm place hp (SmL.refl z)
      simp only
      cases P.underlying t with
      | none => exact .none
      | some d =>
        cases d <;> try exact .none
        · rename_i n e
          simp only
          cases sizeT P e with
          | none => exact .none
          | some k =>
            have k2 := F (fun i => some (i * k, k))
            simp only
            generalize fillV (fun i => some (i * k, k)) z _ = w at k2
            generalize fillV (fun i => some (i * k, k)) z _ = w' at k2
            cases k2 with
            | none => exact .none
            | some hw => exact .some (lay_sm h (.agg hw) o.dst)
        · rename_i fs
          simp only
          split
          · have k2 := F (structPlace P fs)
            generalize fillV (structPlace P fs) z _ = w at k2
            generalize fillV (structPlace P fs) z _ = w' at k2
            cases k2 with
            | none => exact .none
            | some hw => exact .some (lay_sm h (.agg hw) o.dst)
          · exact .none

theorem sm_buildSlice {t : TypeId} {n : Nat} {ps : Array (Nat × Operand)} (ho : o.op = .buildSlice t n ps) : OptR SmS (evOp P H C fz o D) (evOp P H C fz o D') := by
  have E : ∀ x, OptR Sm (ev H D x) (ev H D' x) := fun x => ev_sm h x
  unfold evOp
  simp only [ho]
  have h1 := evParts_sm (H := H) h ps.toList
  generalize evParts H D ps.toList = x at h1
  generalize evParts H D' ps.toList = x' at h1
  cases P.underlying t with
  | none => exact .none
  | some d =>
    cases d <;> try exact .none
    rename_i e
    simp only
    cases sizeT P e with
    | none => exact .none
    | some k =>
      cases hz : zeroT P e with
      | none => exact .none
      | some z =>
        cases h1 with
        | none => exact .none
        | some hp =>
          have k1 := settleP_sm fz hp h
          simp only
          generalize settleP fz _ D = w at k1
          generalize settleP fz _ D' = w' at k1
          cases k1 with
          | none => exact .none
          | @some w w' hw =>
            obtain ⟨ys, D1⟩ := w
            obtain ⟨ys', D1'⟩ := w'
            obtain ⟨hy, hS⟩ := hw
            simp only at hy hS ⊢
            have k2 := fillV_sm (fun i => some (i * k, k)) hy (SmL.refl (rep n z))
            generalize fillV (fun i => some (i * k, k)) (rep n z) ys = u at k2
            generalize fillV (fun i => some (i * k, k)) (rep n z) ys' = u' at k2
            cases k2 with
            | none => exact .none
            | some hu =>
              simp only [hu.length, all_sm (f := cellIn) cellIn_sm hu]
              split
              · exact .some (lay_sm hS (.own hu) o.dst)
              · exact .none

theorem sm_indexAddr {t : TypeId} {x ix : Operand} (ho : o.op = .indexAddr t x ix) : OptR SmS (evOp P H C fz o D) (evOp P H C fz o D') := by
  have E : ∀ x, OptR Sm (ev H D x) (ev H D' x) := fun x => ev_sm h x
  unfold evOp
  simp only [ho]
  have h1 := E x
  have h2 := E ix
  generalize ev H D x = y1 at h1
  generalize ev H D' x = y1' at h1
  generalize ev H D ix = y2 at h2
  generalize ev H D' ix = y2' at h2
  cases P.underlying t with
  | none => exact .none
  | some d =>
    cases h1 with
    | none => cases d <;> exact .none
    | some ha =>
      cases h2 with
      | none => cases d <;> exact .none
      | some hb =>
        cases hb with
        | int ki i =>
          cases d <;> try exact .none
          · rename_i e
            simp only
            cases sizeT P e with
            | none => exact .none
            | some k =>
              cases ha with
              | im hc =>
                simp only [hc.length]
                split
                · exact .some (lay_sm h (.ip (hc.drop _)) o.dst)
                · exact .none
              | ref r p =>
                simp only
                have k3 := look_sm h r p
                generalize look D r p = w at k3
                generalize look D' r p = w' at k3
                cases k3 with
                | none => exact .none
                | some hw =>
                  cases hw with
                  | own hc =>
                    simp only [hc.length]
                    split
                    · exact .some (lay_sm h (Sm.refl _) o.dst)
                    · exact .none
                  | _ => exact .none
              | _ => exact .none
          · rename_i n e
            simp only
            cases sizeT P e with
            | none => exact .none
            | some k =>
              simp only [okAddr_sm h ha]
              split
              · have k2 := moveV_sm (i.toNat * k) ha
                generalize moveV (i.toNat * k) _ = w at k2
                generalize moveV (i.toNat * k) _ = w' at k2
                cases k2 with
                | none => exact .none
                | some hw => exact .some (lay_sm h hw o.dst)
              · exact .none
        | _ => cases d <;> exact .none

include hX hC in
theorem sm_call {c : Call} (ho : o.op = .call c) : OptR SmS (evOp P H C fz o D) (evOp P H C fz o D') := by
  have E : ∀ x, OptR Sm (ev H D x) (ev H D' x) := fun x => ev_sm h x
  unfold evOp
  simp only [ho]
  have h1 := evL_sm (H := H) h c.args.toList
  generalize evL H D c.args.toList = x at h1
  generalize evL H D' c.args.toList = x' at h1
  split
  · rename_i b _
    cases h1 with
    | none => exact .none
    | some hv =>
      have k := doBuiltin_sm (P := P) b c.argTypes.toList h hv
      simp only
      generalize doBuiltin P b c.argTypes.toList _ D = z at k
      generalize doBuiltin P b c.argTypes.toList _ D' = z' at k
      cases k with
      | none => exact .none
      | some hp => exact .some (lay_sm hp.2 hp.1 o.dst)
  · rename_i g _
    have h2 := E g
    generalize ev H D g = y at h2
    generalize ev H D' g = y' at h2
    cases h2 with
    | none => exact .none
    | some hg =>
      cases h1 with
      | none =>
        cases hg with
        | @fn f a a' b b' ha hb => cases f <;> exact .none
        | _ => exact .none
      | some hv =>
        cases hg with
        | @fn f a a' b b' ha hb => cases f <;> first | exact .none | exact doCall_sm hX hC _ o.dst ((ha.append hv).append hb) h
        | _ => exact .none
  · exact .none
end
theorem evOp_sm {C : Callee} (fz : Bool) (o : Oper) {D D' : St} (hX : XSm H) (hC : CSm C) (h : SmS D D') : OptR SmS (evOp P H C fz o D) (evOp P H C fz o D') := by
  cases ho : o.op with
  | move x => exact sm_move h ho
  | assign x => exact sm_assign h ho
  | pick c a b => exact sm_pick h ho
  | alloc t => exact sm_alloc h ho
  | box t x => exact sm_box h ho
  | build t ps => exact sm_build h ho
  | buildSlice t n ps => exact sm_buildSlice h ho
  | load t a => exact sm_load h ho
  | store t a x => exact sm_store h ho
  | nilCheck x => exact sm_nilCheck h ho
  | binOp op t x y t2 => exact sm_binOp h ho
  | unOp op t x => exact sm_unOp h ho
  | convert s d x => exact sm_convert h ho
  | makeFunc f a b => exact sm_makeFunc h ho
  | makeSlice t l c => exact sm_makeSlice h ho
  | slice t x lo hi mx => exact sm_slice h ho
  | fieldAddr s x f => exact sm_fieldAddr h ho
  | field s x f => exact sm_field h ho
  | indexAddr t x ix => exact sm_indexAddr h ho
  | index t x ix => exact sm_index h ho
  | extract t i => exact sm_extract h ho
  | call c => exact sm_call hX hC h ho
  | _ => unfold evOp; simp only [ho]; exact .none

end Go.Abs
end
/- The evaluator respects 'the same but for the decorations': operations in a row, code, results, calls. -/
set_option linter.unusedVariables false
noncomputable section
namespace Go.Abs
open Go

variable {P : Program} {H : Hint}

theorem wantedV_sm (ops : Array Oper) (o : Oper) {D D' : St} (h : SmS D D') : wantedV ops o D' = wantedV ops o D := by
  unfold wantedV
  split
  · rfl
  · rename_i j want _
    cases (ops[j]?).bind (·.dst) with
    | none => rfl
    | some t =>
      simp only
      have k := h.s t
      generalize D.s t = x at k
      generalize D'.s t = x' at k
      cases k <;> rfl
theorem evOps_sm {C : Callee} (ops : Array Oper) (fz : Nat → Bool) (hX : XSm H) (hC : CSm C) : ∀ (l : List Oper) (i : Nat) {D D' : St}, SmS D D' → OptR SmS (evOps P H C ops fz i l D) (evOps P H C ops fz i l D')
  | [], i, D, D', h => .some h
  | o :: l, i, D, D', h => by
    unfold evOps
    rw [wantedV_sm ops o h]
    cases wantedV ops o D with
    | none => exact .none
    | some b =>
      cases b with
      | false => exact evOps_sm ops fz hX hC l (i + 1) (lay_sm h (Sm.refl _) o.dst)
      | true =>
        have k := evOp_sm (P := P) (fz i) o hX hC h
        simp only
        generalize evOp P H C (fz i) o D = x at k
        generalize evOp P H C (fz i) o D' = x' at k
        cases k with
        | none => exact .none
        | some hS => exact evOps_sm ops fz hX hC l (i + 1) hS
theorem capless_sm {z z' : Option V} (h : OptR Sm z z') : capless z' = capless z := by
  cases h with
  | none => rfl
  | some hx =>
    cases hx with
    | @own d d' r n cs cs' hc =>
      cases hc with
      | nil => cases r <;> cases n <;> rfl
      | cons _ _ => cases r <;> cases n <;> rfl
    | _ => rfl
theorem caplessV_sm {D D' : St} (h : SmS D D') (ts : List TypeId) {y y' : Option (List V)} (hy : OptR SmL y y') : caplessV D' ts y' = caplessV D ts y := by
  unfold caplessV
  split
  · congr 1
    cases hy with
    | none => rfl
    | some hv =>
      cases hv with
      | nil => rfl
      | cons h3 h4 =>
        cases h4 with
        | nil => cases h3 <;> rfl
        | cons h5 h6 =>
          cases h6 with
          | nil =>
            cases h3 with
            | ref r p => exact capless_sm (look_sm h r p)
            | _ => rfl
          | cons _ _ => cases h3 <;> rfl
  · rfl
theorem quietB_sm (o : Oper) {D D' : St} (h : SmS D D') : quietB H o D' = quietB H o D := by
  unfold quietB
  split <;> try rfl
  rename_i c _
  split
  case h_1 => exact caplessV_sm h _ (evL_sm (H := H) h c.args.toList)
  case h_3 => rfl
  rename_i g _
  have h1 := ev_sm (H := H) h g
  generalize ev H D g = x at h1
  generalize ev H D' g = x' at h1
  have h2 := evL_sm (H := H) h c.args.toList
  generalize evL H D c.args.toList = y at h2
  generalize evL H D' c.args.toList = y' at h2
  cases h1 with
  | none => rfl
  | some hg =>
    cases hg with
    | @fn f a a' b b' ha hb =>
      cases h2 with
      | none => cases f <;> rfl
      | some hv =>
        cases f <;> try rfl
        rename_i f
        simp only
        have k := lendArgs_sm (H.sg f) ((ha.append hv).append hb) h
        generalize lendArgs (H.sg f) _ D = z at k
        generalize lendArgs (H.sg f) _ D' = z' at k
        cases k with
        | none => rfl
        | some hp => simp only [ptrsL_sm hp.1]
    | _ => rfl
theorem evDraw_sm {C : Callee} (ops : Array Oper) (fz mu : Nat → Bool) (hX : XSm H) (hC : CSm C) : ∀ (l : List Nat) {D D' : St}, SmS D D' → OptR SmS (evDraw P H C ops fz mu l D) (evDraw P H C ops fz mu l D')
  | [], D, D', h => .some h
  | i :: l, D, D', h => by
    unfold evDraw
    cases ops[i]? with
    | none => exact .none
    | some o =>
      simp only
      rw [wantedV_sm ops o h]
      cases wantedV ops o D with
      | none => exact .none
      | some b =>
        cases b with
        | false => exact evDraw_sm ops fz mu hX hC l (lay_sm h (Sm.refl _) o.dst)
        | true =>
          simp only [quietB_sm o h]
          split
          · have k := evOp_sm (P := P) (fz i) o hX hC h
            generalize evOp P H C (fz i) o D = x at k
            generalize evOp P H C (fz i) o D' = x' at k
            cases k with
            | none => exact .none
            | some hS => exact evDraw_sm ops fz mu hX hC l hS
          · exact .none
theorem stepT_sm {C : Callee} (ops : Array Oper) (fz mu : Nat → Bool) (hX : XSm H) (hC : CSm C) (i : Nat) {D D' : St} (h : SmS D D') : OptR SmS (stepT P H C ops fz mu i D) (stepT P H C ops fz mu i D') := by
  unfold stepT
  cases ops[i]? with
  | none => exact .none
  | some o =>
    simp only
    rw [wantedV_sm ops o h]
    cases wantedV ops o D with
    | none => exact .none
    | some b =>
      cases b with
      | false => exact .some (lay_sm h (Sm.refl _) o.dst)
      | true =>
        simp only [quietB_sm o h]
        split
        · exact evOp_sm (P := P) (fz i) o hX hC h
        · exact .none
theorem bindO_sm {x x' : Option St} {f f' : St → Option St} (h : OptR SmS x x') (hf : ∀ {D D' : St}, SmS D D' → OptR SmS (f D) (f' D')) : OptR SmS (x.bind f) (x'.bind f') := by
  cases h with
  | none => exact .none
  | some h => exact hf h
open Classical in
theorem bothO_sm {x x' y y' : Option St} (h : OptR SmS x x') (k : OptR SmS y y') : OptR SmS (bothO x y) (bothO x' y') := by
  cases h with
  | none => cases k <;> exact .none
  | @some D1 D1' hS =>
    cases k with
    | none => exact .none
    | @some D2 D2' hS2 =>
      show OptR SmS (if SmS D1 D2 then some D1 else none) (if SmS D1' D2' then some D1' else none)
      by_cases hq : SmS D1 D2
      · rw [if_pos hq, if_pos ((hS.symm.trans hq).trans hS2)]; exact .some hS
      · rw [if_neg hq, if_neg (fun hq' => hq ((hS.trans hq').trans hS2.symm))]; exact .none
open Classical in
theorem bothO_some {Da Db D : St} (h : bothO (some Da) (some Db) = some D) : Da = D ∧ SmS D Db := by
  have h : (if SmS Da Db then some Da else none) = some D := h
  by_cases hq : SmS Da Db
  · rw [if_pos hq] at h; cases h; exact ⟨rfl, hq⟩
  · rw [if_neg hq] at h; cases h
theorem evDrawT_sm {C : Callee} (ops : Array Oper) (fz mu : Nat → Bool) (hX : XSm H) (hC : CSm C) : ∀ (T : Pl) {D D' : St}, SmS D D' → OptR SmS (evDrawT P H C ops fz mu T D) (evDrawT P H C ops fz mu T D')
  | .fin, D, D', h => .some h
  | .one i l, D, D', h => by
    unfold evDrawT
    exact bindO_sm (stepT_sm (P := P) ops fz mu hX hC i h) fun hS => evDrawT_sm ops fz mu hX hC l hS
  | .two i a j b, D, D', h => by
    unfold evDrawT
    exact bothO_sm (bindO_sm (stepT_sm (P := P) ops fz mu hX hC i h) fun hS => evDrawT_sm ops fz mu hX hC a hS) (bindO_sm (stepT_sm (P := P) ops fz mu hX hC j h) fun hS => evDrawT_sm ops fz mu hX hC b hS)
def ExR (a b : Ex × St) : Prop := a.1 = b.1 ∧ SmS a.2 b.2
theorem clear_sm (l : Option (List Nat)) {D D' : St} (h : SmS D D') : SmS (clear l D) (clear l D') := by
  cases l with
  | none => exact h
  | some live =>
    refine ⟨fun i => ?_, h.m, h.nx⟩
    show Sm (if live.contains i then D.s i else .dead) (if live.contains i then D'.s i else .dead)
    split
    · exact h.s i
    · exact .dead
theorem iter_sm {b : St → Option (Ex × St)} (hb : ∀ {D D' : St}, SmS D D' → OptR ExR (b D) (b D')) (l : Option (List Nat)) : ∀ (k : Nat) {D D' : St}, SmS D D' → OptR ExR (iter b l k D) (iter b l k D')
  | 0, D, D', h => .none
  | k + 1, D, D', h => by
    unfold iter
    have h1 := hb (clear_sm l h)
    generalize b (clear l D) = x at h1
    generalize b (clear l D') = x' at h1
    cases h1 with
    | none => exact .none
    | @some x x' hx =>
      obtain ⟨e, D1⟩ := x
      obtain ⟨e', D1'⟩ := x'
      obtain ⟨he, hS⟩ := hx
      simp only at he hS
      subst he
      cases e with
      | norm => exact iter_sm hb l k hS
      | ret => exact .some ⟨rfl, hS⟩
      | exit i => exact .some ⟨rfl, hS⟩
theorem evCode_sm {C : Callee} (hX : XSm H) (hC : CSm C) (f k : Nat) : ∀ (c : Code) {D D' : St}, SmS D D' → OptR ExR (evCode P H C f k c D) (evCode P H C f k c D')
  | .skip, D, D', h => .some ⟨rfl, h⟩
  | .region id ops w, D, D', h => by
    unfold evCode
    have k : OptR SmS (if w then (match H.tree f id with | some T => evDrawT P H C ops (H.fz f id) (muOf H f id ops) T D | none => evDraw P H C ops (H.fz f id) (muOf H f id ops) (planOf H f id ops) D) else evOps P H C ops (H.fz f id) 0 ops.toList D)
        (if w then (match H.tree f id with | some T => evDrawT P H C ops (H.fz f id) (muOf H f id ops) T D' | none => evDraw P H C ops (H.fz f id) (muOf H f id ops) (planOf H f id ops) D') else evOps P H C ops (H.fz f id) 0 ops.toList D') := by
      cases w
      · exact evOps_sm (P := P) ops (H.fz f id) hX hC ops.toList 0 h
      · cases H.tree f id with
        | none => exact evDraw_sm (P := P) ops (H.fz f id) (muOf H f id ops) hX hC _ h
        | some T => exact evDrawT_sm (P := P) ops (H.fz f id) (muOf H f id ops) hX hC T h
    generalize (if w then (match H.tree f id with | some T => evDrawT P H C ops (H.fz f id) (muOf H f id ops) T D | none => evDraw P H C ops (H.fz f id) (muOf H f id ops) (planOf H f id ops) D) else evOps P H C ops (H.fz f id) 0 ops.toList D) = x at k
    generalize (if w then (match H.tree f id with | some T => evDrawT P H C ops (H.fz f id) (muOf H f id ops) T D' | none => evDraw P H C ops (H.fz f id) (muOf H f id ops) (planOf H f id ops) D') else evOps P H C ops (H.fz f id) 0 ops.toList D') = x' at k
    cases k with
    | none => exact .none
    | some hS => exact .some ⟨rfl, hS⟩
  | .seq a b, D, D', h => by
    unfold evCode
    have h1 := evCode_sm hX hC f k a h
    generalize evCode P H C f k a D = x at h1
    generalize evCode P H C f k a D' = x' at h1
    cases h1 with
    | none => exact .none
    | @some x x' hx =>
      obtain ⟨e, D1⟩ := x
      obtain ⟨e', D1'⟩ := x'
      obtain ⟨he, hS⟩ := hx
      simp only at he hS
      subst he
      cases e with
      | norm => exact evCode_sm hX hC f k b hS
      | ret => exact .some ⟨rfl, hS⟩
      | exit i => exact .some ⟨rfl, hS⟩
  | .cond c a b, D, D', h => by
    unfold evCode
    have h1 := ev_sm (H := H) h c
    generalize ev H D c = x at h1
    generalize ev H D' c = x' at h1
    cases h1 with
    | none => exact .none
    | some hx =>
      cases hx with
      | bool t =>
        cases t
        · exact evCode_sm hX hC f k b h
        · exact evCode_sm hX hC f k a h
      | _ => exact .none
  | .block id c, D, D', h => by
    unfold evCode
    have h1 := evCode_sm hX hC f k c h
    generalize evCode P H C f k c D = x at h1
    generalize evCode P H C f k c D' = x' at h1
    cases h1 with
    | none => exact .none
    | @some x x' hx =>
      obtain ⟨e, D1⟩ := x
      obtain ⟨e', D1'⟩ := x'
      obtain ⟨he, hS⟩ := hx
      simp only at he hS
      subst he
      cases e with
      | norm => exact .some ⟨rfl, hS⟩
      | ret => exact .some ⟨rfl, hS⟩
      | exit i =>
        simp only
        split
        · exact .some ⟨rfl, hS⟩
        · exact .some ⟨rfl, hS⟩
  | .loop c, D, D', h => by
    unfold evCode
    exact iter_sm (fun h => evCode_sm hX hC f k c h) _ k h
  | .exit id, D, D', h => .some ⟨rfl, h⟩
  | .ret, D, D', h => .some ⟨rfl, h⟩
  | .rangeFunc .., D, D', h => .none
  | .scope _, D, D', h => .none
  | .label _, D, D', h => .none
  | .goto _, D, D', h => .none
  | .refuse _, D, D', h => .none
theorem evRes_sm : ∀ (l : List ResultVar) {D D' : St}, SmS D D' → OptR (PairR SmL SmS) (evRes P D l) (evRes P D' l)
  | [], D, D', h => .some ⟨.nil, h⟩
  | .tmp t :: l, D, D', h => by
    unfold evRes
    have k := settle_sm false (view_sm (.slot t) [] (h.s t)) h
    generalize settle false (view (.slot t) [] (D.s t)) D = z at k
    generalize settle false (view (.slot t) [] (D'.s t)) D' = z' at k
    cases k with
    | none => exact .none
    | @some z z' hp =>
      obtain ⟨y, D1⟩ := z
      obtain ⟨y', D1'⟩ := z'
      obtain ⟨hy, hS⟩ := hp
      simp only at hy hS ⊢
      have k2 := evRes_sm l hS
      generalize evRes P D1 l = w at k2
      generalize evRes P D1' l = w' at k2
      cases k2 with
      | none => exact .none
      | some hw => exact .some ⟨.cons hy hw.1, hw.2⟩
  | .cell t ty :: l, D, D', h => by
    unfold evRes
    have k0 := loadV_sm (P := P) h ty (h.s t)
    generalize loadV P D ty (D.s t) = u at k0
    generalize loadV P D' ty (D'.s t) = u' at k0
    cases k0 with
    | none => exact .none
    | some hu =>
      have k := settle_sm false hu h
      simp only
      generalize settle false _ D = z at k
      generalize settle false _ D' = z' at k
      cases k with
      | none => exact .none
      | @some z z' hp =>
        obtain ⟨y, D1⟩ := z
        obtain ⟨y', D1'⟩ := z'
        obtain ⟨hy, hS⟩ := hp
        simp only at hy hS ⊢
        have k2 := evRes_sm l hS
        generalize evRes P D1 l = w at k2
        generalize evRes P D1' l = w' at k2
        cases k2 with
        | none => exact .none
        | some hw => exact .some ⟨.cons hy hw.1, hw.2⟩
theorem packRes_sm {l l' : List V} (h : SmL l l') : Sm (packRes l) (packRes l') := by
  cases h with
  | nil => exact .tup .nil
  | cons h1 h2 =>
    cases h2 with
    | nil => exact h1
    | cons h3 h4 => exact .tup (.cons h1 (.cons h3 h4))
theorem flatPtrs_sm {m m' : List (Nat × Box)} (h : SmM m m') : (m'.flatMap fun e => ptrsL e.2.cs) = (m.flatMap fun e => ptrsL e.2.cs) := by
  induction h with
  | nil => rfl
  | cons h1 _ ih => simp only [List.flatMap_cons, ptrsL_sm h1, ih]
theorem evCall_sm (hX : XSm H) : ∀ n : Nat, CSm (evCall P H n)
  | 0 => fun f as as' m m' nx _ _ => .none
  | n + 1 => fun f as as' m m' nx ha hm => by
    unfold evCall
    split
    · exact .none
    cases P.funcs[f]? with
    | none => exact .none
    | some fn =>
      simp only
      cases fn.body with
      | none => exact .none
      | some c =>
        simp only
        have hS : SmS { s := fun i => match as[i]? with | some v => v | none => .dead, m := m, nx := nx } { s := fun i => match as'[i]? with | some v => v | none => .dead, m := m', nx := nx } := by
          refine ⟨fun i => ?_, hm, rfl⟩
          simp only
          have k := ha.getR i
          generalize as[i]? = x at k
          generalize as'[i]? = x' at k
          cases k with
          | none => exact .dead
          | some hx => exact hx
        have k := evCode_sm (P := P) hX (evCall_sm hX n) f n c hS
        generalize evCode P H (evCall P H n) f n c { s := fun i => match as[i]? with | some v => v | none => .dead, m := m, nx := nx } = x at k
        generalize evCode P H (evCall P H n) f n c { s := fun i => match as'[i]? with | some v => v | none => .dead, m := m', nx := nx } = x' at k
        cases k with
        | none => exact .none
        | @some x x' hx =>
          obtain ⟨e, D1⟩ := x
          obtain ⟨e', D1'⟩ := x'
          obtain ⟨he, hS1⟩ := hx
          simp only at he hS1 ⊢
          subst he
          split
          · have k2 := evRes_sm (P := P) fn.results.toList hS1
            generalize evRes P D1 fn.results.toList = w at k2
            generalize evRes P D1' fn.results.toList = w' at k2
            cases k2 with
            | none => exact .none
            | @some w w' hw =>
              obtain ⟨rs, D2⟩ := w
              obtain ⟨rs', D2'⟩ := w'
              obtain ⟨hr, hS2⟩ := hw
              simp only at hr hS2 ⊢
              rw [noBorL_sm hr]
              split
              · exact .none
              have hr' : Sm (packRes (if H.fr f then frzL true rs else rs)) (packRes (if H.fr f then frzL true rs' else rs')) := by
                refine packRes_sm ?_
                split
                · exact frzL_sm true hr
                · exact hr
              have ho := hS2.m.filter fun i => decide (i < nx)
              rw [ptrs_sm hr', flatPtrs_sm ho, hS2.nx]
              generalize packRes (if H.fr f then frzL true rs else rs) = r at hr' ⊢
              generalize packRes (if H.fr f then frzL true rs' else rs') = r' at hr' ⊢
              split
              · exact .some (show ResR (_, _, _) (_, _, _) from ⟨hr', hS2.m, rfl⟩)
              · exact .some (show ResR (_, _, _) (_, _, _) from ⟨hr', ho, rfl⟩)
          · exact .none
end Go.Abs
end
/- Light operations: they leave the world as it is, and yield the same in every world that grew out of it. -/
set_option linter.unusedVariables false
noncomputable section
namespace Go.Abs
open Go

theorem Grow.refl (w : World) : Grow w w := ⟨Nat.le_refl _, fun _ _ => rfl⟩
theorem Grow.trans {w w1 w2 : World} (h : Grow w w1) (k : Grow w1 w2) : Grow w w2 :=
  ⟨Nat.le_trans h.1 k.1, fun q hq => (k.2 q (Nat.lt_of_lt_of_le hq h.1)).trans (h.2 q hq)⟩
theorem Grow.get {w w' : World} (h : Grow w w') {k : Nat} {o : Obj} (ho : w.heap[k]? = some o) : w'.heap[k]? = some o := by
  have hk : k < w.heap.size := (Array.getElem?_eq_some_iff.1 ho).1
  rw [h.2 k hk]; exact ho
theorem Grow.cell {w w' : World} (h : Grow w w') {a : Addr} {v : Value} (hc : w.cell? a = some v) : w'.cell? a = some v := by
  unfold World.cell? at hc ⊢
  split at hc
  · rename_i c e f he
    rw [h.get he]; exact hc
  · cases hc

/-- If it goes well, then in every world that grew, alike, and the world is left as it is. -/
def Firm {α : Type} (P : Program) (s : Sem α) : Prop := ∀ w r w1, s.run P w = .ok r w1 → ∀ w', Grow w w' → s.run P w' = .ok r w'
def Dies {α : Type} (P : Program) (s : Sem α) : Prop := ∀ w r w1, s.run P w ≠ .ok r w1
section
variable {P : Program} {α β : Type}
theorem Dies.firm {s : Sem α} (h : Dies P s) : Firm P s := fun w r w1 hr => absurd hr (h w r w1)
theorem firm_pure (x : α) : Firm P (pure x : Sem α) := fun w r w1 h w' _ => by
  simp only [Sem.run_pure, Result.ok.injEq] at h ⊢; exact ⟨h.1, trivial⟩
theorem Firm.bind {s : Sem α} {f : α → Sem β} (hs : Firm P s) (hf : ∀ x, Firm P (f x)) : Firm P (s >>= f) := fun w r w1 h w' hg => by
  rw [Sem.run_bind] at h ⊢
  cases hq : s.run P w with
  | halt e w2 => rw [hq] at h; simp at h
  | ok v w2 =>
    have h1 := hs w v w2 hq
    rw [hq] at h
    simp only [Result.andThen_ok] at h
    have h2 := h1 w (Grow.refl w)
    rw [hq] at h2
    cases h2
    rw [h1 w' hg]
    simp only [Result.andThen_ok]
    exact hf v _ r w1 h w' hg
theorem Dies.bind {s : Sem α} {f : α → Sem β} (hs : Dies P s) : Dies P (s >>= f) := fun w r w1 h => by
  rw [Sem.run_bind] at h
  cases hq : s.run P w with
  | halt e w2 => rw [hq] at h; simp at h
  | ok v w2 => exact hs _ _ _ hq
theorem Dies.bind2 {s : Sem α} {f : α → Sem β} (hf : ∀ x, Dies P (f x)) : Dies P (s >>= f) := fun w r w1 h => by
  rw [Sem.run_bind] at h
  cases hq : s.run P w with
  | halt e w2 => rw [hq] at h; simp at h
  | ok v w2 => rw [hq] at h; simp only [Result.andThen_ok] at h; exact hf _ _ _ _ h
theorem dies_halt (e : Halt) : Dies P (.halt e : Sem α) := fun w r w1 h => by cases h
theorem dies_stuck (e : String) : Dies P (stuck e : Sem α) := dies_halt _
theorem dies_unsupported (e : Unsupported) : Dies P (unsupported e : Sem α) := dies_halt _
theorem dies_runtimePanic (e : RuntimeError) : Dies P (runtimePanic e : Sem α) := by
  unfold runtimePanic
  refine Dies.bind2 fun p => ?_
  cases e <;> first
    | exact dies_halt _
    | exact Dies.bind2 fun _ => dies_halt _
    | exact Dies.bind2 fun _ => Dies.bind2 fun _ => dies_halt _
theorem dies_boundsPanic (k : IntKind) (x y : Int) (c : BoundsCode) : Dies P (boundsPanic k x y c : Sem α) := by
  unfold boundsPanic
  simp only
  split
  · exact Dies.bind2 fun _ => dies_runtimePanic _
  · exact Dies.bind2 fun _ => dies_runtimePanic _
theorem firm_program : Firm P Go.program := fun w r w1 h w' _ => by
  cases h; rfl
theorem firm_typeInfo (t : TypeId) : Firm P (typeInfo t) := by
  unfold typeInfo
  repeat' (first
    | exact firm_pure _
    | exact firm_program
    | exact (dies_stuck _).firm
    | exact (dies_unsupported _).firm
    | exact (dies_runtimePanic _).firm
    | exact (dies_boundsPanic _ _ _ _).firm
    | exact firm_program
    | refine Firm.bind ?_ fun _ => ?_
    | split
    | dsimp only)

theorem firm_underlying (t : TypeId) : Firm P (underlying t) := by
  unfold underlying
  repeat' (first
    | exact firm_pure _
    | exact firm_program
    | exact (dies_stuck _).firm
    | exact (dies_unsupported _).firm
    | exact (dies_runtimePanic _).firm
    | exact (dies_boundsPanic _ _ _ _).firm
    | (first | exact firm_typeInfo _)
    | refine Firm.bind ?_ fun _ => ?_
    | split
    | dsimp only)

theorem firm_sizeOf (t : TypeId) : Firm P (sizeOf t) := by
  unfold sizeOf
  repeat' (first
    | exact firm_pure _
    | exact firm_program
    | exact (dies_stuck _).firm
    | exact (dies_unsupported _).firm
    | exact (dies_runtimePanic _).firm
    | exact (dies_boundsPanic _ _ _ _).firm
    | (first | exact firm_typeInfo _ | exact firm_underlying _)
    | refine Firm.bind ?_ fun _ => ?_
    | split
    | dsimp only)

theorem firm_isAgg (t : TypeId) : Firm P (isAgg t) := by
  unfold isAgg
  repeat' (first
    | exact firm_pure _
    | exact firm_program
    | exact (dies_stuck _).firm
    | exact (dies_unsupported _).firm
    | exact (dies_runtimePanic _).firm
    | exact (dies_boundsPanic _ _ _ _).firm
    | (first | exact firm_typeInfo _ | exact firm_underlying _ | exact firm_sizeOf _)
    | refine Firm.bind ?_ fun _ => ?_
    | split
    | dsimp only)

theorem firm_zeroValue (t : TypeId) : Firm P (zeroValue t) := by
  unfold zeroValue
  repeat' (first
    | exact firm_pure _
    | exact firm_program
    | exact (dies_stuck _).firm
    | exact (dies_unsupported _).firm
    | exact (dies_runtimePanic _).firm
    | exact (dies_boundsPanic _ _ _ _).firm
    | (first | exact firm_typeInfo _ | exact firm_underlying _ | exact firm_sizeOf _ | exact firm_isAgg _)
    | refine Firm.bind ?_ fun _ => ?_
    | split
    | dsimp only)

theorem firm_asBool (v : Value) : Firm P (asBool v) := by
  unfold asBool
  repeat' (first
    | exact firm_pure _
    | exact firm_program
    | exact (dies_stuck _).firm
    | exact (dies_unsupported _).firm
    | exact (dies_runtimePanic _).firm
    | exact (dies_boundsPanic _ _ _ _).firm
    | (first | exact firm_typeInfo _ | exact firm_underlying _ | exact firm_sizeOf _ | exact firm_isAgg _ | exact firm_zeroValue _)
    | refine Firm.bind ?_ fun _ => ?_
    | split
    | dsimp only)

theorem firm_asAgg (v : Value) : Firm P (asAgg v) := by
  unfold asAgg
  repeat' (first
    | exact firm_pure _
    | exact firm_program
    | exact (dies_stuck _).firm
    | exact (dies_unsupported _).firm
    | exact (dies_runtimePanic _).firm
    | exact (dies_boundsPanic _ _ _ _).firm
    | (first | exact firm_typeInfo _ | exact firm_underlying _ | exact firm_sizeOf _ | exact firm_isAgg _ | exact firm_zeroValue _ | exact firm_asBool _)
    | refine Firm.bind ?_ fun _ => ?_
    | split
    | dsimp only)

theorem firm_asIntOf (v : Value) : Firm P (asIntOf v) := by
  unfold asIntOf
  repeat' (first
    | exact firm_pure _
    | exact firm_program
    | exact (dies_stuck _).firm
    | exact (dies_unsupported _).firm
    | exact (dies_runtimePanic _).firm
    | exact (dies_boundsPanic _ _ _ _).firm
    | (first | exact firm_typeInfo _ | exact firm_underlying _ | exact firm_sizeOf _ | exact firm_isAgg _ | exact firm_zeroValue _ | exact firm_asBool _ | exact firm_asAgg _)
    | refine Firm.bind ?_ fun _ => ?_
    | split
    | dsimp only)

theorem firm_sureAddr (v : Value) : Firm P (Instr.sureAddr v) := by
  unfold Instr.sureAddr
  repeat' (first
    | exact firm_pure _
    | exact firm_program
    | exact (dies_stuck _).firm
    | exact (dies_unsupported _).firm
    | exact (dies_runtimePanic _).firm
    | exact (dies_boundsPanic _ _ _ _).firm
    | (first | exact firm_typeInfo _ | exact firm_underlying _ | exact firm_sizeOf _ | exact firm_isAgg _ | exact firm_zeroValue _ | exact firm_asBool _ | exact firm_asAgg _ | exact firm_asIntOf _)
    | refine Firm.bind ?_ fun _ => ?_
    | split
    | dsimp only)

theorem firm_asAddr (v : Value) : Firm P (asAddr v) := by
  unfold asAddr
  repeat' (first
    | exact firm_pure _
    | exact firm_program
    | exact (dies_stuck _).firm
    | exact (dies_unsupported _).firm
    | exact (dies_runtimePanic _).firm
    | exact (dies_boundsPanic _ _ _ _).firm
    | (first | exact firm_typeInfo _ | exact firm_underlying _ | exact firm_sizeOf _ | exact firm_isAgg _ | exact firm_zeroValue _ | exact firm_asBool _ | exact firm_asAgg _ | exact firm_asIntOf _ | exact firm_sureAddr _)
    | refine Firm.bind ?_ fun _ => ?_
    | split
    | dsimp only)

theorem firm_part (t : TypeId) (cs : Array Value) (k : Nat) : Firm P (part t cs k) := by
  unfold part
  repeat' (first
    | exact firm_pure _
    | exact firm_program
    | exact (dies_stuck _).firm
    | exact (dies_unsupported _).firm
    | exact (dies_runtimePanic _).firm
    | exact (dies_boundsPanic _ _ _ _).firm
    | (first | exact firm_typeInfo _ | exact firm_underlying _ | exact firm_sizeOf _ | exact firm_isAgg _ | exact firm_zeroValue _ | exact firm_asBool _ | exact firm_asAgg _ | exact firm_asIntOf _ | exact firm_sureAddr _ | exact firm_asAddr _)
    | refine Firm.bind ?_ fun _ => ?_
    | split
    | dsimp only)

theorem firm_field (t : TypeId) (v : Value) (k : Nat) : Firm P (Instr.field t v k) := by
  unfold Instr.field
  repeat' (first
    | exact firm_pure _
    | exact firm_program
    | exact (dies_stuck _).firm
    | exact (dies_unsupported _).firm
    | exact (dies_runtimePanic _).firm
    | exact (dies_boundsPanic _ _ _ _).firm
    | (first | exact firm_typeInfo _ | exact firm_underlying _ | exact firm_sizeOf _ | exact firm_isAgg _ | exact firm_zeroValue _ | exact firm_asBool _ | exact firm_asAgg _ | exact firm_asIntOf _ | exact firm_sureAddr _ | exact firm_asAddr _ | exact firm_part _ _ _)
    | refine Firm.bind ?_ fun _ => ?_
    | split
    | dsimp only)

theorem firm_index (t : TypeId) (v u : Value) : Firm P (Instr.index t v u) := by
  unfold Instr.index
  repeat' (first
    | exact firm_pure _
    | exact firm_program
    | exact (dies_stuck _).firm
    | exact (dies_unsupported _).firm
    | exact (dies_runtimePanic _).firm
    | exact (dies_boundsPanic _ _ _ _).firm
    | (first | exact firm_typeInfo _ | exact firm_underlying _ | exact firm_sizeOf _ | exact firm_isAgg _ | exact firm_zeroValue _ | exact firm_asBool _ | exact firm_asAgg _ | exact firm_asIntOf _ | exact firm_sureAddr _ | exact firm_asAddr _ | exact firm_part _ _ _)
    | refine Firm.bind ?_ fun _ => ?_
    | split
    | dsimp only)

theorem firm_indexAt (t : TypeId) (v u : Value) : Firm P (Instr.indexAt t v u) := by
  unfold Instr.indexAt
  repeat' (first
    | exact firm_pure _
    | exact firm_program
    | exact (dies_stuck _).firm
    | exact (dies_unsupported _).firm
    | exact (dies_runtimePanic _).firm
    | exact (dies_boundsPanic _ _ _ _).firm
    | (first | exact firm_typeInfo _ | exact firm_underlying _ | exact firm_sizeOf _ | exact firm_isAgg _ | exact firm_zeroValue _ | exact firm_asBool _ | exact firm_asAgg _ | exact firm_asIntOf _ | exact firm_sureAddr _ | exact firm_asAddr _ | exact firm_part _ _ _)
    | refine Firm.bind ?_ fun _ => ?_
    | split
    | dsimp only)

theorem firm_sliceBound (v : Value) (n : Nat) (c : BoundsCode) : Firm P (Instr.sliceBound v n c) := by
  unfold Instr.sliceBound
  repeat' (first
    | exact firm_pure _
    | exact firm_program
    | exact (dies_stuck _).firm
    | exact (dies_unsupported _).firm
    | exact (dies_runtimePanic _).firm
    | exact (dies_boundsPanic _ _ _ _).firm
    | (first | exact firm_typeInfo _ | exact firm_underlying _ | exact firm_sizeOf _ | exact firm_isAgg _ | exact firm_zeroValue _ | exact firm_asBool _ | exact firm_asAgg _ | exact firm_asIntOf _ | exact firm_sureAddr _ | exact firm_asAddr _ | exact firm_part _ _ _)
    | refine Firm.bind ?_ fun _ => ?_
    | split
    | dsimp only)

theorem firm_sliceBounds (b : Bool) (n m : Nat) (x y z : Option Value) : Firm P (Instr.sliceBounds b n m x y z) := by
  unfold Instr.sliceBounds
  repeat' (first
    | exact firm_pure _
    | exact firm_program
    | exact (dies_stuck _).firm
    | exact (dies_unsupported _).firm
    | exact (dies_runtimePanic _).firm
    | exact (dies_boundsPanic _ _ _ _).firm
    | (first | exact firm_typeInfo _ | exact firm_underlying _ | exact firm_sizeOf _ | exact firm_isAgg _ | exact firm_zeroValue _ | exact firm_asBool _ | exact firm_asAgg _ | exact firm_asIntOf _ | exact firm_sureAddr _ | exact firm_asAddr _ | exact firm_part _ _ _ | exact firm_sliceBound _ _ _)
    | refine Firm.bind ?_ fun _ => ?_
    | split
    | dsimp only)

theorem firm_slice (t : TypeId) (v : Value) (x y z : Option Value) : Firm P (Instr.slice t v x y z) := by
  unfold Instr.slice
  repeat' (first
    | exact firm_pure _
    | exact firm_program
    | exact (dies_stuck _).firm
    | exact (dies_unsupported _).firm
    | exact (dies_runtimePanic _).firm
    | exact (dies_boundsPanic _ _ _ _).firm
    | (first | exact firm_typeInfo _ | exact firm_underlying _ | exact firm_sizeOf _ | exact firm_isAgg _ | exact firm_zeroValue _ | exact firm_asBool _ | exact firm_asAgg _ | exact firm_asIntOf _ | exact firm_sureAddr _ | exact firm_asAddr _ | exact firm_part _ _ _ | exact firm_sliceBound _ _ _ | exact firm_sliceBounds _ _ _ _ _ _)
    | refine Firm.bind ?_ fun _ => ?_
    | split
    | dsimp only)

theorem firm_sliceAt (t : TypeId) (v : Value) (x y z : Option Value) : Firm P (Instr.sliceAt t v x y z) := by
  unfold Instr.sliceAt
  repeat' (first
    | exact firm_pure _
    | exact firm_program
    | exact (dies_stuck _).firm
    | exact (dies_unsupported _).firm
    | exact (dies_runtimePanic _).firm
    | exact (dies_boundsPanic _ _ _ _).firm
    | (first | exact firm_typeInfo _ | exact firm_underlying _ | exact firm_sizeOf _ | exact firm_isAgg _ | exact firm_zeroValue _ | exact firm_asBool _ | exact firm_asAgg _ | exact firm_asIntOf _ | exact firm_sureAddr _ | exact firm_asAddr _ | exact firm_part _ _ _ | exact firm_sliceBound _ _ _ | exact firm_sliceBounds _ _ _ _ _ _ | exact firm_slice _ _ _ _ _)
    | refine Firm.bind ?_ fun _ => ?_
    | split
    | dsimp only)

theorem firm_mapM {f : α → Sem β} (hf : ∀ x, Firm P (f x)) : ∀ l : List α, Firm P (l.mapM f)
  | [] => by rw [List.mapM_nil]; exact firm_pure _
  | x :: l => by
    rw [List.mapM_cons]
    exact Firm.bind (hf x) fun _ => Firm.bind (firm_mapM hf l) fun _ => firm_pure _
theorem Firm.map {s : Sem α} (hs : Firm P s) (f : α → β) : Firm P (f <$> s) := by
  rw [map_eq_pure_bind]; exact hs.bind fun _ => firm_pure _
theorem firm_mapA {f : α → Sem β} (hf : ∀ x, Firm P (f x)) (l : Array α) : Firm P (l.mapM f) := by
  rw [Array.mapM_eq_mapM_toList]; exact (firm_mapM hf _).map _

theorem firm_build (t : TypeId) (ps : Array (Nat × Value)) : Firm P (Instr.build t ps) := by
  unfold Instr.build
  repeat' (first
    | exact firm_pure _
    | exact firm_program
    | exact (dies_stuck _).firm
    | exact (dies_unsupported _).firm
    | exact (dies_runtimePanic _).firm
    | exact (dies_boundsPanic _ _ _ _).firm
    | (first | exact firm_typeInfo _ | exact firm_underlying _ | exact firm_sizeOf _ | exact firm_isAgg _ | exact firm_zeroValue _ | exact firm_asBool _ | exact firm_asAgg _ | exact firm_asIntOf _ | exact firm_sureAddr _ | exact firm_asAddr _ | exact firm_part _ _ _ | exact firm_sliceBound _ _ _ | exact firm_sliceBounds _ _ _ _ _ _ | exact firm_slice _ _ _ _ _ | exact firm_mapA (fun _ => Firm.bind (firm_sizeOf _) fun _ => firm_pure _) _)
    | refine Firm.bind ?_ fun _ => ?_
    | split
    | dsimp only)

theorem firm_extract (v : Value) (k : Nat) : Firm P (Instr.extract v k) := by
  unfold Instr.extract
  repeat' (first
    | exact firm_pure _
    | exact firm_program
    | exact (dies_stuck _).firm
    | exact (dies_unsupported _).firm
    | exact (dies_runtimePanic _).firm
    | exact (dies_boundsPanic _ _ _ _).firm
    | (first | exact firm_typeInfo _ | exact firm_underlying _ | exact firm_sizeOf _ | exact firm_isAgg _ | exact firm_zeroValue _ | exact firm_asBool _ | exact firm_asAgg _ | exact firm_asIntOf _ | exact firm_sureAddr _ | exact firm_asAddr _ | exact firm_part _ _ _ | exact firm_sliceBound _ _ _ | exact firm_sliceBounds _ _ _ _ _ _ | exact firm_slice _ _ _ _ _ | exact firm_mapA (fun _ => Firm.bind (firm_sizeOf _) fun _ => firm_pure _) _)
    | refine Firm.bind ?_ fun _ => ?_
    | split
    | dsimp only)
end
end Go.Abs
end
/- Light operations, one by one. -/
set_option linter.unusedVariables false
noncomputable section
namespace Go.Abs
open Go

section
variable {P : Program}
theorem seen_grow {w w' : World} (hg : Grow w w') {at_ : Addr} {u : TypeId} {k : Addr} {m : Bool} {r} (h : w.seen P at_ u k m = .ok r) : w'.seen P at_ u k m = .ok r := by
  by_cases hk : at_.block < w.heap.size
  · unfold World.seen at h ⊢
    rw [hg.2 _ hk]; exact h
  · have hn : w.heap[at_.block]? = none := Array.getElem?_eq_none (by omega)
    unfold World.seen at h
    rw [hn] at h
    simp only [bind, Except.bind, pure, Except.pure, throw, throwThe, MonadExceptOf.throw] at h
    repeat' (first | (cases h; done) | split at h)
theorem farLoad_grow {w w' : World} (hg : Grow w w') {a : Addr} {m : Bool} {r} (h : w.farLoad P a m = .ok r) : w'.farLoad P a m = .ok r := by
  unfold World.farLoad at h ⊢
  split at h
  · rename_i at_ u he
    rw [hg.get he]
    simp only
    split at h
    · rename_i r' hv
      cases h
      unfold World.viewLoad at hv ⊢
      cases hs : w.seen P at_ u a m with
      | error e => rw [hs] at hv; cases hv
      | ok q =>
        rw [hs] at hv
        rw [seen_grow hg hs, hv]
    · cases h
  · cases h
theorem firm_load (a : Addr) : Firm P (load a) := fun w r w1 h w' hg => by
  unfold load at h ⊢
  simp only [Sem.run] at h ⊢
  cases hc : w.cell? a with
  | some v =>
    rw [hc] at h
    cases h
    rw [hg.cell hc]
  | none =>
    rw [hc] at h
    simp only at h
    have hc' : w'.cell? a = none := by
      cases hf : w.farLoad P a (Mode.plain == .atomic) with
      | error e => rw [hf] at h; cases h
      | ok q =>
        unfold World.farLoad at hf
        split at hf
        · rename_i at_ u he
          unfold World.cell?
          rw [hg.get he]
        · cases hf
    rw [hc']
    simp only
    cases hf : w.farLoad P a (Mode.plain == .atomic) with
    | error e => rw [hf] at h; cases h
    | ok q =>
      rw [hf] at h
      rw [farLoad_grow hg hf]
      cases h; rfl
theorem firm_loadCellsFrom (a : Addr) : ∀ (n i : Nat) (acc : Array Value), Firm P (loadCellsFrom a i n acc)
  | 0, i, acc => firm_pure _
  | n + 1, i, acc => Firm.bind (firm_load _) fun _ => firm_loadCellsFrom a n _ _
theorem firm_loadVar (t : TypeId) (a : Addr) : Firm P (loadVar t a) := by
  unfold loadVar loadCells
  repeat' (first
    | exact firm_pure _
    | exact firm_load _
    | exact firm_loadCellsFrom _ _ _ _
    | exact firm_isAgg _
    | exact firm_sizeOf _
    | refine Firm.bind ?_ fun _ => ?_
    | split)
theorem firm_loadAt (t : TypeId) (v : Value) : Firm P (Instr.loadAt t v) := Firm.bind (firm_sureAddr _) fun _ => firm_loadVar _ _
end

variable {P : Program} {H : Hint} {E : Env} {nt : Nat} {D D1 : St} {ex : List V} {w : World} {a : Act} {o : Oper}

def LitRun (P : Program) (o : Oper) (a : Act) (w : World) : Prop := ∃ v, ∀ w', Grow w w' → (execOp a.eval o).run P w' = .ok (.value v) w'
theorem firm_lit {s : Sem Value} (hs : ∀ w, (execOp a.eval o).run P w = (s.run P w).andThen (fun u w' => .ok (.value u) w')) (hf : Firm P s) (hwp : o.wp P a w (fun _ _ => True) (fun _ _ _ => False)) : LitRun P o a w := by
  unfold Oper.wp at hwp
  rw [hs] at hwp
  cases hq : s.run P w with
  | halt e w2 =>
    rw [hq] at hwp
    cases e <;> exact hwp.elim
  | ok v w2 =>
    refine ⟨v, fun w' hg => ?_⟩
    rw [hs, hf w v w2 hq w' hg]; rfl
theorem leads_true : Leads H E nt D ex w D1 (fun _ _ => True) := fun _ _ _ _ _ _ _ => trivial
theorem intOp_scalar {op : BinOp} {k : IntKind} {x y : Int} {v : V} (h : intOp op k x y = some v) : v.scalar = true := by
  cases op <;> simp only [intOp] at h <;> first
    | (cases h; done)
    | (cases h; rfl)
    | (split at h <;> cases h <;> rfl)
theorem shOp_scalar {op : BinOp} {k : IntKind} {x y : Int} {v : V} (h : shOp op k x y = some v) : v.scalar = true := by
  unfold shOp at h
  split at h
  · cases h
  · cases op <;> cases h <;> rfl
theorem bin_run {op : BinOp} {t t2 : TypeId} {x y : Operand} {va vb v : V} (hN : Now H E nt D ex w a) (ho : o.op = .binOp op t x y t2) (hx : ev H D x = some va) (hy : ev H D y = some vb) (hv : bin P D op t (isNil y) va vb = some v) :
    ∃ u, (execOp a.eval o).run P w = .ok (.value u) w ∧ PR E.β D v u ∧ v.scalar = true := by
  have hsx := ev_ok hN hx
  have hsy := ev_ok hN hy
  have fin : ∀ u, (∀ us, a.eval x ≠ .agg us) ∧ a.eval x ≠ .nilIface → (binOp op t (a.eval x) (a.eval y)).run P w = .ok u w → Seen E nt D ex w v u → v.scalar = true → (∃ u, (execOp a.eval o).run P w = .ok (.value u) w ∧ PR E.β D v u ∧ v.scalar = true) := by
    intro u hf hr hs hsc
    refine ⟨u, ?_, hs.pr, hsc⟩
    simp [execOp, ho, eqGuard_free hf, hr]
  have eqlike : ∀ (b : Bool), (op = .eql ∧ v = .bool b) ∨ (op = .neq ∧ v = .bool !b) → (∀ us, a.eval x ≠ .agg us) ∧ a.eval x ≠ .nilIface → (Op.equal t (a.eval x) (a.eval y)).run P w = .ok b w → (binOp op t (a.eval x) (a.eval y) = (if op = .eql then (do pure (.bool (← Op.equal t (a.eval x) (a.eval y)))) else (do pure (.bool (!(← Op.equal t (a.eval x) (a.eval y))))) : Sem Value)) → (∃ u, (execOp a.eval o).run P w = .ok (.value u) w ∧ PR E.β D v u ∧ v.scalar = true) := by
    intro b hb hf hr hbin
    rcases hb with ⟨rfl, rfl⟩ | ⟨rfl, rfl⟩
    · exact fin (.bool b) hf (by rw [hbin]; simp [hr]) (seen_bool b) rfl
    · exact fin (.bool !b) hf (by rw [hbin]; simp [hr]) (seen_bool _) rfl
  have e0 : eq0 op = some v → (op = .eql ∧ v = .bool true) ∨ (op = .neq ∧ v = .bool false) := by
    intro he; unfold eq0 at he; split at he <;> cases he
    · exact .inl ⟨rfl, rfl⟩
    · exact .inr ⟨rfl, rfl⟩
  have n0 : ne0 op = some v → (op = .eql ∧ v = .bool false) ∨ (op = .neq ∧ v = .bool true) := by
    intro he; unfold ne0 at he; split at he <;> cases he
    · exact .inl ⟨rfl, rfl⟩
    · exact .inr ⟨rfl, rfl⟩
  unfold bin at hv
  split at hv
  · -- integers
    rename_i k n k' n'
    have ex1 : a.eval x = .int k n := hsx.pr
    have ey1 : a.eval y = .int k' n' := hsy.pr
    split at hv
    · rename_i hsh
      have SC : shOp op k n n' = some v → v.scalar = true := shOp_scalar
      obtain ⟨u, hr, hs⟩ := shOp_ok (P := P) (E := E) (nt := nt) (D := D) (ex := ex) (w := w) (k' := k') hsh hv t
      exact fin u (by rw [ex1]; simp) (by rw [ex1, ey1]; exact hr) hs (SC hv)
    · split at hv
      · rename_i hk
        subst hk
        have SC : intOp op k n n' = some v → v.scalar = true := intOp_scalar
        obtain ⟨u, hr, hs⟩ := intOp_ok (P := P) (E := E) (nt := nt) (D := D) (ex := ex) (w := w) hv t
        exact fin u (by rw [ex1]; simp) (by rw [ex1, ey1]; exact hr) hs (SC hv)
      · cases hv
  · rename_i b b'
    have ex1 : a.eval x = .bool b := hsx.pr
    have ey1 : a.eval y = .bool b' := hsy.pr
    split at hv
    · rename_i hu
      cases hv
      refine eqlike (b == b') (.inl ⟨rfl, rfl⟩) (by rw [ex1]; simp) (by rw [ex1, ey1]; exact equal_of fun d => by simp [Op.equalIn, run_underlying' hu]) ?_
      rw [ex1, ey1]; rfl
    · rename_i hu
      cases hv
      refine eqlike (b == b') (.inr ⟨rfl, rfl⟩) (by rw [ex1]; simp) (by rw [ex1, ey1]; exact equal_of fun d => by simp [Op.equalIn, run_underlying' hu]) ?_
      rw [ex1, ey1]; rfl
    · cases hv
  · split at hv
    · rename_i e hu
      have ex1 : a.eval x = .pointer none := hsx.pr
      have ey1 : a.eval y = .pointer none := hsy.pr
      refine eqlike true (e0 hv) (by rw [ex1]; simp) (by rw [ex1, ey1]; exact equal_of fun d => by simp [Op.equalIn, run_underlying' hu]) ?_
      rw [ex1, ey1]
      rcases e0 hv with ⟨rfl, _⟩ | ⟨rfl, _⟩ <;> rfl
    · cases hv
  · rename_i b q
    split at hv
    · rename_i e hu
      have ex1 : a.eval x = .pointer (some ⟨E.β b, q, none⟩) := hsx.pr
      have ey1 : a.eval y = .pointer none := hsy.pr
      refine eqlike false (n0 hv) (by rw [ex1]; simp) (by rw [ex1, ey1]; exact equal_of fun d => by simp [Op.equalIn, run_underlying' hu]) ?_
      rw [ex1, ey1]
      rcases n0 hv with ⟨rfl, _⟩ | ⟨rfl, _⟩ <;> rfl
    · cases hv
  · rename_i b q
    split at hv
    · rename_i e hu
      have ex1 : a.eval x = .pointer none := hsx.pr
      have ey1 : a.eval y = .pointer (some ⟨E.β b, q, none⟩) := hsy.pr
      refine eqlike false (n0 hv) (by rw [ex1]; simp) (by rw [ex1, ey1]; exact equal_of fun d => by simp [Op.equalIn, run_underlying' hu]) ?_
      rw [ex1, ey1]
      rcases n0 hv with ⟨rfl, _⟩ | ⟨rfl, _⟩ <;> rfl
    · cases hv
  · split at hv
    case isFalse => cases hv
    rename_i hnil
    have ey1 : a.eval y = .slice none 0 0 := by
      unfold isNil at hnil
      split at hnil
      · rfl
      · cases hnil
    have main : ∀ e A n cap, P.underlying t = some (.slice e) → a.eval x = .slice (some A) n cap → ne0 op = some v → (∃ u, (execOp a.eval o).run P w = .ok (.value u) w ∧ PR E.β D v u ∧ v.scalar = true) := by
      intro e A n cap hu ex1 hne
      refine eqlike false (n0 hne) (by rw [ex1]; simp) (by rw [ex1, ey1]; exact equal_of fun d => by simp [Op.equalIn, run_underlying' hu]) ?_
      rw [ex1, ey1]
      rcases n0 hne with ⟨rfl, _⟩ | ⟨rfl, _⟩ <;> rfl
    split at hv
    · rename_i e pm A cap n cs hu hrs
      -- read-only
      have key : ∀ v', rs D v' = some (.im pm A cap (n + 1) cs) → v' = .im pm A cap (n + 1) cs := by
        intro v' hv'
        unfold rs at hv'
        split at hv'
        · split at hv' <;> cases hv'
        · cases hv'; rfl
      have hva := key _ hrs
      subst hva
      have ha := hsx.ok (.i pm A cap (n + 1) cs) (by simp [atoms])
      have ex1 : a.eval x = .slice A (n + 1) cap := hsx.pr
      cases A with
      | none => exact absurd ha.2.1 (by omega)
      | some A => exact main e A _ _ hu ex1 hv
    · rename_i e d k n cs hu hrs
      have ex1 : Abs.hd E.β (.own d k (n + 1) cs) = some (a.eval x) ∧ RowOk E w (d, k, n + 1, cs.map sh) := by
        unfold rs at hrs
        split at hrs
        · split at hrs
          · rename_i r p d' k' n' cs' hl
            cases hrs
            refine ⟨hsx.pr _ _ _ _ hl, ?_⟩
            obtain ⟨R0, hR0⟩ := row_of_look (ex := ex) (hN.slots.lt hl) hl (e := (d, k, n + 1, cs.map sh)) (by simp [Abs.rows])
            exact hN.inv.rows _ (hR0.mem_iff.2 (List.mem_append_left _ (by simp [Abs.rows])))
          · cases hrs
        · cases hrs
          exact ⟨hsx.pr, (hsx.flat _ (by simp [Abs.rows])).1⟩
      obtain ⟨h1, h2⟩ := ex1
      cases d with
      | nil => exact absurd h2.1 (by simp)
      | emp A => exact absurd h2.1 (by simp)
      | blk g cap kk =>
        simp only [Abs.hd, Option.some.injEq] at h1
        exact main e _ _ _ hu h1.symm hv
    · cases hv

theorem Now.grow {w' : World} (hN : Now H E nt D ex w a) (hg : Grow w w') : Now H E nt D ex w' a := by
  refine ⟨⟨fun e he => ?_, hN.inv.nodup, fun b hb => ?_, hN.inv.boxes, hN.inv.ids, hN.inv.keysG, fun k hk => hN.inv.newG k (Nat.le_trans hg.1 hk), hN.inv.gpb⟩, hN.slots, hN.glob⟩
  · have h := hN.inv.rows e he
    obtain ⟨d, k, n, cs⟩ := e
    cases d with
    | nil => exact h
    | emp A => exact h
    | blk g cap kk =>
      obtain ⟨q1, q2, q3, q4, q5, cur, el, q6, q7⟩ := h
      exact ⟨q1, q2, q3, q4, q5, cur, el, hg.get q6, q7⟩
  · have h := hN.inv.atoms b hb
    have hF : ∀ {pm A cs}, FOk E w (fun k => k ∈ keysD nt D ex) pm A cs → FOk E w' (fun k => k ∈ keysD nt D ex) pm A cs := fun h => ⟨h.1, fun j x hx => by
      obtain ⟨u, hu, hm⟩ := h.2.1 j x hx
      exact ⟨u, hg.cell hu, hm⟩, h.2.2⟩
    cases b with
    | p b => exact h
    | i pm A cap n cs =>
      refine ⟨h.1, ?_⟩
      have h2 := h.2
      cases A with
      | none => exact h2
      | some A => exact hF h2
    | f pm A cs => exact hF h
theorem scalar_pr {β : Nat → Nat} {v : V} {u u' : Value} (hs : v.scalar = true) (h : PR β D v u) (h' : PR β D v u') : u = u' := by
  cases v <;> first
    | (have e1 : u = _ := h; have e2 : u' = _ := h'; rw [e1, e2])
    | cases hs
section
variable {C : Callee} {fz : Bool} (hN : Now H E nt D ex w a) (hd : ∀ t, o.dst = some t → t < nt) (h : evOp P H C fz o D = some D1)
include hN hd h

theorem lit_load {t : TypeId} {x : Operand} (ho : o.op = .load t x) : LitRun P o a w :=
  firm_lit (s := Instr.loadAt t (a.eval x)) (fun w => by simp only [execOp, ho, Sem.run_bind]; rfl) (firm_loadAt _ _) (op_load hN hd h leads_true ho)
omit hN hd h in
theorem lit_move {x : Operand} (ho : o.op = .move x) : LitRun P o a w := ⟨a.eval x, fun w' _ => by simp [execOp, ho]⟩
omit hN hd h in
theorem lit_assign {x : Operand} (ho : o.op = .assign x) : LitRun P o a w := ⟨a.eval x, fun w' _ => by simp [execOp, ho]⟩
omit hN hd h in
theorem lit_makeFunc {f : Fn} {xs ys : Array Operand} (ho : o.op = .makeFunc f xs ys) : LitRun P o a w := ⟨.func f (xs.map a.eval) (ys.map a.eval), fun w' _ => by simp [execOp, ho, Instr.makeFunc]⟩
theorem lit_pick {c x y : Operand} (ho : o.op = .pick c x y) : LitRun P o a w :=
  firm_lit (s := do pure (if ← asBool (a.eval c) then a.eval x else a.eval y)) (fun w => by simp only [execOp, ho, Sem.run_bind]; cases (asBool (a.eval c)).run P w <;> rfl)
    (Firm.bind (firm_asBool _) fun _ => firm_pure _) (op_pick hN hd h leads_true ho)
theorem lit_field {t : TypeId} {x : Operand} {f : Nat} (ho : o.op = .field t x f) : LitRun P o a w :=
  firm_lit (s := Instr.field t (a.eval x) f) (fun w => by simp only [execOp, ho, Sem.run_bind]; rfl) (firm_field _ _ _) (op_field hN hd h leads_true ho)
theorem lit_index {t : TypeId} {x ix : Operand} (ho : o.op = .index t x ix) : LitRun P o a w :=
  firm_lit (s := Instr.index t (a.eval x) (a.eval ix)) (fun w => by simp only [execOp, ho, Sem.run_bind]; rfl) (firm_index _ _ _) (op_index hN hd h leads_true ho)
theorem lit_indexAddr {t : TypeId} {x ix : Operand} (ho : o.op = .indexAddr t x ix) : LitRun P o a w :=
  firm_lit (s := Instr.indexAt t (a.eval x) (a.eval ix)) (fun w => by simp only [execOp, ho, Sem.run_bind]; rfl) (firm_indexAt _ _ _) (op_indexAddr hN hd h leads_true ho)
theorem lit_extract {x : Operand} {i : Nat} (ho : o.op = .extract x i) : LitRun P o a w :=
  firm_lit (s := Instr.extract (a.eval x) i) (fun w => by simp only [execOp, ho, Sem.run_bind]; rfl) (firm_extract _ _) (op_extract hN hd h leads_true ho)
theorem lit_build {t : TypeId} {ps : Array (Nat × Operand)} (ho : o.op = .build t ps) : LitRun P o a w :=
  firm_lit (s := Instr.build t (ps.map fun (i, x) => (i, a.eval x))) (fun w => by simp only [execOp, ho, Sem.run_bind]; rfl) (firm_build _ _) (op_build hN hd h leads_true ho)
theorem lit_slice {t : TypeId} {x : Operand} {lo hi mx : Option Operand} (ho : o.op = .slice t x lo hi mx) : LitRun P o a w :=
  firm_lit (s := Instr.sliceAt t (a.eval x) (lo.map a.eval) (hi.map a.eval) (mx.map a.eval)) (fun w => by simp only [execOp, ho, Sem.run_bind]; rfl) (firm_sliceAt _ _ _ _ _) (op_slice hN hd h leads_true ho)
omit hd in
theorem lit_convert {s t : TypeId} {x : Operand} (ho : o.op = .convert s t x) : LitRun P o a w := by
  unfold evOp at h
  simp only [ho] at h
  split at h
  case h_2 => cases h
  rename_i k0 n k d hx hu hs
  have ex1 : a.eval x = .int k0 n := (ev_ok hN hx).pr
  exact ⟨.int k (k.wrap n), fun w' _ => by simp [execOp, ho, ex1, convert, run_underlying' hu, run_underlying' hs, Conv.intToInt]⟩
omit hd in
theorem lit_fieldAddr {t : TypeId} {x : Operand} {f : Nat} (ho : o.op = .fieldAddr t x f) : LitRun P o a w := by
  unfold evOp at h
  simp only [ho] at h
  split at h
  case h_2 => cases h
  rename_i fs v hu hx
  split at h
  case h_2 => cases h
  rename_i fd hfd
  split at h
  case h_2 => cases h
  rename_i k y hk hy
  split at h
  case isFalse => cases h
  rename_i hok
  obtain ⟨A, h1, h2⟩ := moveV_ok hN (ev_ok hN hx) hok hy
  exact ⟨_, fun w' _ => by simp [execOp, ho, Instr.fieldAt, run_underlying' hu, hfd, h1, Instr.sureAddr, fieldPlace, run_sizeOf' hk]; rfl⟩
omit hd in
theorem lit_nilCheck {x : Operand} (ho : o.op = .nilCheck x) : LitRun P o a w := by
  unfold evOp at h
  simp only [ho] at h
  split at h
  · rename_i b o' hv
    have : a.eval x = _ := (ev_ok hN hv).pr
    exact ⟨_, fun w' _ => by simp [execOp, ho, this]; rfl⟩
  · rename_i pm A cs hv
    have : a.eval x = _ := (ev_ok hN hv).pr
    exact ⟨_, fun w' _ => by simp [execOp, ho, this]; rfl⟩
  · rename_i r p hv
    split at h
    · rename_i hok
      obtain ⟨A, hA⟩ := okAddr_ptr hN (ev_ok hN hv) hok
      exact ⟨_, fun w' _ => by simp [execOp, ho, hA]; rfl⟩
    · cases h
  · cases h
omit hd in
theorem lit_unOp {op : UnOp} {t : TypeId} {x : Operand} (ho : o.op = .unOp op t x) : LitRun P o a w := by
  unfold evOp at h
  simp only [ho] at h
  split at h
  case h_2 => cases h
  rename_i va hx
  split at h
  case h_2 => cases h
  rename_i v hv
  have hsx := ev_ok hN hx
  unfold un at hv
  split at hv
  · rename_i k n
    have ex1 : a.eval x = .int k n := hsx.pr
    exact ⟨_, fun w' _ => by simp [execOp, ho, ex1, Op.unary, Op.intArith]; rfl⟩
  · rename_i k n
    have ex1 : a.eval x = .int k n := hsx.pr
    exact ⟨_, fun w' _ => by simp [execOp, ho, ex1, Op.unary, Op.intBits]; rfl⟩
  · rename_i b
    have ex1 : a.eval x = .bool b := hsx.pr
    exact ⟨_, fun w' _ => by simp [execOp, ho, ex1, Op.unary]; rfl⟩
  · cases hv
omit hd in
theorem lit_binOp {op : BinOp} {t t2 : TypeId} {x y : Operand} (ho : o.op = .binOp op t x y t2) : LitRun P o a w := by
  unfold evOp at h
  simp only [ho] at h
  split at h
  case h_2 => cases h
  rename_i va vb hx hy
  split at h
  case h_2 => cases h
  rename_i v hv
  obtain ⟨u, h1, h2, h3⟩ := bin_run hN ho hx hy hv
  refine ⟨u, fun w' hg => ?_⟩
  obtain ⟨u', h1', h2', _⟩ := bin_run (hN.grow hg) ho hx hy hv
  rw [scalar_pr h3 h2 h2']; exact h1'
end
theorem lenV_scalar {t : TypeId} {v y : V} (h : lenV P t v D = some y) : y.scalar = true := by
  unfold lenV at h
  split at h
  · split at h <;> cases h <;> rfl
  · cases h; rfl
  · split at h <;> cases h; rfl
  · cases h
theorem builtin_run {c : Call} {b : Builtin} {vs : List V} {y : V} {D2 : St} (hN : Now H E nt D ex w a) (ho : o.op = .call c) (hc : c.callee = .builtin b) (hb : b = .len ∨ b = .max ∨ b = .min) (hvs : evL H D c.args.toList = some vs) (hy : doBuiltin P b c.argTypes.toList vs D = some (y, D2)) :
    ∃ u, (execOp a.eval o).run P w = .ok (.value u) w ∧ PR E.β D y u ∧ y.scalar = true := by
  have hseen := seen_of (vs := vs) hN hvs
  have hlen := evL_len hvs
  have hrunc0 : ∃ cst, (execOp a.eval o).run P w = ((builtin b c.argTypes o.type cst (c.args.map a.eval)).run P w) := by
    refine ⟨?_, ?_⟩
    rotate_left
    · simp only [execOp, ho, resolve, hc, invoke, Sem.run_bind, Sem.run_pure, Result.andThen_ok]
      rfl
  obtain ⟨cst, hrunc⟩ := hrunc0
  have one : ∀ v, vs = [v] → ∃ x1, c.args = #[x1] ∧ Seen E nt D ex w v (a.eval x1) := by
    intro v e
    subst e
    match hl : c.args.toList, hlen with
    | [x1], _ =>
      rw [hl] at hseen
      obtain ⟨q1, e1, s1⟩ := hseen 0 v rfl
      simp at e1
      subst e1
      exact ⟨_, by rw [← Array.toList_inj, hl], s1⟩
  have mm : ∀ (isMax : Bool) (y0 : V), minmax isMax vs = some y0 → ∃ k q, y0 = .int k q ∧ (match (c.args.map a.eval).toList with | [] => (stuck "" : Sem Value) | x :: rest => rest.foldlM (if isMax then Builtin.max2 else Builtin.min2) x).run P w = .ok (.int k q) w := by
    intro isMax y0 hm
    unfold minmax at hm
    split at hm
    · rename_i k x l
      obtain ⟨hprl, _, _⟩ := evL_ok hN hvs
      obtain ⟨u, us, e1, h1, h2⟩ := hprl
      have eu : u = .int k x := h1
      subst eu
      obtain ⟨q, hq, hr⟩ := minmaxA_ok (P := P) (w := w) isMax k hm h2
      refine ⟨k, q, hq, ?_⟩
      simp only [Array.toList_map, e1]
      exact hr
    · cases hm
  unfold doBuiltin at hy
  split at hy
  · rcases hb with h | h | h <;> cases h
  · rcases hb with h | h | h <;> cases h
  · rename_i t v hts
    obtain ⟨x1, ea, s1⟩ := one v rfl
    have et : c.argTypes = #[t] := by rw [← Array.toList_inj, hts]
    split at hy
    case h_2 => cases hy
    rename_i y0 hy0
    cases hy
    obtain ⟨u, r1, r2⟩ := lenV_ok (P := P) (ty := o.type) hN s1 hy0
    refine ⟨u, ?_, r2.pr, lenV_scalar hy0⟩
    rw [hrunc, ea, et]
    simp [builtin, r1]
  · split at hy
    case h_2 => cases hy
    rename_i y0 hy0
    cases hy
    obtain ⟨k, q, e, hr⟩ := mm true _ hy0
    subst e
    refine ⟨.int k q, ?_, rfl, rfl⟩
    rw [hrunc]
    have : (Builtin.max_ c.argTypes o.type (c.args.map a.eval)).run P w = .ok (.int k q) w := by
      unfold Builtin.max_
      split
      · rename_i h0; rw [h0] at hr; simp at hr
      · rename_i x rest h0; rw [h0] at hr; exact hr
    simp [builtin, this]
  · split at hy
    case h_2 => cases hy
    rename_i y0 hy0
    cases hy
    obtain ⟨k, q, e, hr⟩ := mm false _ hy0
    subst e
    refine ⟨.int k q, ?_, rfl, rfl⟩
    rw [hrunc]
    have : (Builtin.min_ c.argTypes o.type (c.args.map a.eval)).run P w = .ok (.int k q) w := by
      unfold Builtin.min_
      split
      · rename_i h0; rw [h0] at hr; simp at hr
      · rename_i x rest h0; rw [h0] at hr; exact hr
    simp [builtin, this]
  · cases hy

theorem lit_builtin {C : Callee} {fz : Bool} {c : Call} {b : Builtin} (hN : Now H E nt D ex w a) (h : evOp P H C fz o D = some D1) (ho : o.op = .call c) (hc : c.callee = .builtin b) (hb : b = .len ∨ b = .max ∨ b = .min) : LitRun P o a w := by
  unfold evOp at h
  simp only [ho, hc] at h
  split at h
  case h_2 => cases h
  rename_i vs hvs
  split at h
  case h_2 => cases h
  rename_i y D2 hy
  obtain ⟨u, h1, h2, h3⟩ := builtin_run hN ho hc hb hvs hy
  refine ⟨u, fun w' hg => ?_⟩
  obtain ⟨u', h1', h2', _⟩ := builtin_run (hN.grow hg) ho hc hb hvs hy
  rw [scalar_pr h3 h2 h2']; exact h1'
/-- LIGHT OPERATIONS. -/
theorem lit_ok {C : Callee} {fz : Bool} (hN : Now H E nt D ex w a) (hd : ∀ t, o.dst = some t → t < nt) (h : evOp P H C fz o D = some D1) (hl : litB o = true) : LitRun P o a w := by
  cases ho : o.op with
  | move x => exact lit_move ho
  | assign x => exact lit_assign ho
  | pick c x y => exact lit_pick hN hd h ho
  | build t ps => exact lit_build hN hd h ho
  | load t x => exact lit_load hN hd h ho
  | nilCheck x => exact lit_nilCheck hN h ho
  | binOp op t x y t2 => exact lit_binOp hN h ho
  | unOp op t x => exact lit_unOp hN h ho
  | convert s t x => exact lit_convert hN h ho
  | makeFunc f xs ys => exact lit_makeFunc ho
  | slice t x lo hi mx => exact lit_slice hN hd h ho
  | fieldAddr t x f => exact lit_fieldAddr hN h ho
  | field t x f => exact lit_field hN hd h ho
  | indexAddr t x ix => exact lit_indexAddr hN hd h ho
  | index t x ix => exact lit_index hN hd h ho
  | extract x i => exact lit_extract hN hd h ho
  | call c =>
    unfold litB at hl
    simp only [ho] at hl
    cases hc : c.callee with
    | builtin b =>
      simp only [hc] at hl
      cases b <;> first
        | exact lit_builtin hN h ho hc (.inl rfl)
        | exact lit_builtin hN h ho hc (.inr (.inl rfl))
        | exact lit_builtin hN h ho hc (.inr (.inr rfl))
        | cases hl
    | _ => simp only [hc] at hl; cases hl
  | _ => unfold litB at hl; simp only [ho] at hl; cases hl
end Go.Abs
end
/- Regions that ask the tape: whatever order is picked. -/
set_option linter.unusedVariables false
noncomputable section
namespace Go.Abs
open Go

section
variable {P : Program} {md : Region.Mode} {ops : Array Oper} {mu : Nat → Bool} {Q : Exit → Act → World → Prop}

def wpAnyX (P : Program) (md : Region.Mode) (ops : Array Oper) (mu : Nat → Bool) (Q : Exit → Act → World → Prop) : Nat → Array Bool → Act → World → Prop
  | 0, listed, a, w => Region.ready md ops listed = [] ∧ Q .normal a w
  | fuel + 1, listed, a, w =>
    (Region.ready md ops listed = [] → Q .normal a w) ∧
    ∀ i ∈ Region.ready md ops listed, wpOp P ops Q i (fun a' w' => (mu i = false → Grow w w') ∧ wpAnyX P md ops mu Q fuel (listed.setIfInBounds i true) a' w') a w

theorem wpAny_of_X : ∀ (fuel : Nat) (listed : Array Bool) (a : Act) (w : World), wpAnyX P md ops mu Q fuel listed a w → wpAny P md ops Q fuel listed a w
  | 0, _, _, _, h => h
  | fuel + 1, _, _, _, h => ⟨h.1, fun i hi => wpOp_mono (fun a' w' h' => wpAny_of_X fuel _ a' w' h'.2) (h.2 i hi)⟩

/-- What waits for i, through others as well. -/
inductive Dep (md : Region.Mode) (ops : Array Oper) (i : Nat) : Nat → Prop
  | one {j : Nat} {o : Oper} {e : Edge} (ho : ops[j]? = some o) (he : e ∈ o.after) (hb : Region.binds md e = true) (hi : e.on = i) : Dep md ops i j
  | step {j : Nat} {o : Oper} {e : Edge} (ho : ops[j]? = some o) (he : e ∈ o.after) (hb : Region.binds md e = true) (hi : Dep md ops i e.on) : Dep md ops i j
def depB (md : Region.Mode) (ops : Array Oper) (i : Nat) : Nat → Nat → Bool
  | 0, _ => false
  | k + 1, j => match ops[j]? with
    | some o => o.after.any fun e => Region.binds md e && (e.on == i || depB md ops i k e.on)
    | none => false
theorem depB_spec {i : Nat} : ∀ (k j : Nat), depB md ops i k j = true → Dep md ops i j
  | 0, j, h => by cases h
  | k + 1, j, h => by
    unfold depB at h
    split at h
    · rename_i o ho
      obtain ⟨e, he, h1⟩ := Array.any_eq_true'.1 h
      simp only [Bool.and_eq_true, Bool.or_eq_true, beq_iff_eq] at h1
      rcases h1.2 with h2 | h2
      · exact .one ho he h1.1 h2
      · exact .step ho he h1.1 (depB_spec k _ h2)
    · cases h
def Closed (md : Region.Mode) (ops : Array Oper) (listed : Array Bool) : Prop :=
  ∀ j o, ops[j]? = some o → listed.getD j false = true → ∀ e ∈ o.after, Region.binds md e = true → listed.getD e.on false = true
theorem Dep.listed {i j : Nat} {listed : Array Bool} (hc : Closed md ops listed) (h : Dep md ops i j) : listed.getD j false = true → listed.getD i false = true := by
  induction h with
  | one ho he hb hi => intro hj; subst hi; exact hc _ _ ho hj _ he hb
  | step ho he hb _ ih => intro hj; exact ih (hc _ _ ho hj _ he hb)
theorem Dep.ready {i j : Nat} {listed : Array Bool} (hc : Closed md ops listed) (h : Dep md ops i j) (hr : j ∈ Region.ready md ops listed) : listed.getD i false = true := by
  obtain ⟨_, o, ho, hall⟩ := mem_ready.1 hr
  cases h with
  | one ho' he hb hi => rw [ho] at ho'; cases ho'; subst hi; exact hall _ he hb
  | step ho' he hb hd => rw [ho] at ho'; cases ho'; exact hd.listed hc (hall _ he hb)
theorem getD_off {listed : Array Bool} {i : Nat} (h : listed.getD i true = false) : listed.getD i false = false := by
  rcases Nat.lt_or_ge i listed.size with h' | h'
  · simpa [h'] using h
  · simp [Array.getElem?_eq_none h'] at h
theorem getD_in' {listed : Array Bool} {i : Nat} (h : listed.getD i false = true) : listed.getD i true = true := by
  cases hq : listed.getD i true with
  | true => rfl
  | false => rw [getD_off hq] at h; cases h
theorem getD_set' {listed : Array Bool} {i j : Nat} (h : (listed.setIfInBounds j true).getD i true = false) : listed.getD i true = false := by
  by_cases hij : j = i
  · subst hij
    rcases Nat.lt_or_ge j listed.size with h' | h'
    · simp [h'] at h
    · simp [Array.getElem?_eq_none h'] at h
  · rw [getD_set_ne true hij] at h; exact h
theorem Closed.set {listed : Array Bool} {j : Nat} (hc : Closed md ops listed) (hr : j ∈ Region.ready md ops listed) : Closed md ops (listed.setIfInBounds j true) := by
  intro k o ho hk e he hb
  by_cases hkj : k = j
  · subst hkj
    obtain ⟨_, o', ho', hall⟩ := mem_ready.1 hr
    rw [ho] at ho'; cases ho'
    exact getD_set_true (hall e he hb)
  · rw [getD_set_ne false (Ne.symm hkj)] at hk
    exact getD_set_true (hc k o ho hk e he hb)

theorem wpAnyX_first {i : Nat} {oi : Oper} {v : Value} (hi : ops[i]? = some oi) (hsel : ∀ (j : Nat) (o : Oper) cs b, ops[j]? = some o → o.op ≠ .select cs b)
    (hQ : ∀ c a w, Q (.panic c) (a.put oi.dst v) w → Q (.panic c) a w) :
    ∀ (fuel : Nat) (listed : Array Bool) (a : Act) (w : World), Closed md ops listed →
      (∀ j, mu j = true → listed.getD j true = false → Dep md ops i j) →
      (∀ j oj, ops[j]? = some oj → j ≠ i → listed.getD j true = false → (∀ e ∈ oj.after, Region.binds md e = true → e.on ≠ i) → oi.apart ops oj = true) →
      i ∈ Region.ready md ops listed → YieldsIf P ops (Grow w) oi v a →
      wpAnyX P md ops mu Q fuel (listed.setIfInBounds i true) (a.put oi.dst v) w → wpAnyX P md ops mu Q (fuel + 1) listed a w := by
  intro fuel
  induction fuel with
  | zero =>
    intro listed a w _ _ _ hr hy H
    refine ⟨fun h => (by rw [h] at hr; cases hr), fun j hj => ?_⟩
    by_cases hji : j = i
    · subst hji; exact hy.wpOp hi (Grow.refl w) ⟨fun _ => Grow.refl w, H⟩
    · have := ready_mono hj hji
      rw [H.1] at this
      cases this
  | succ fuel ih =>
    intro listed a w hcl hmu hfree hr hy H
    refine ⟨fun h => (by rw [h] at hr; cases hr), fun j hj => ?_⟩
    by_cases hji : j = i
    · subst hji; exact hy.wpOp hi (Grow.refl w) ⟨fun _ => Grow.refl w, H⟩
    · have h1 := H.2 j (ready_mono hj hji)
      obtain ⟨hjun, oj, hoj, hall⟩ := mem_ready.1 hj
      have hiun := (mem_ready.1 hr).1
      have hmj : mu j = false := by
        cases hm : mu j with
        | false => rfl
        | true =>
          have := (hmu j hm hjun).ready hcl hj
          rw [getD_off hiun] at this; cases this
      have hnot : ∀ e ∈ oj.after, Region.binds md e = true → e.on ≠ i := fun e he hb heq => by
        have h1 := hall e he hb
        rw [heq, getD_off hiun] at h1; cases h1
      have h2 := wpOp_putIf hoj (hfree j oj hoj hji hjun hnot) (fun cs b => hsel i oi cs b hi) (fun cs b => hsel j oj cs b hoj) hQ hy h1
      refine wpOp_mono (fun a' w' h3 => ⟨h3.2.1, ih (listed.setIfInBounds j true) a' w' (hcl.set hj) (fun k hk hu => hmu k hk (getD_set' hu)) (fun k ok hk hki hun hno => hfree k ok hk hki (getD_set' hun) hno) (ready_mono hr (Ne.symm hji)) ?_ ?_⟩) h2
      · rcases h3.1 with ⟨q1, q2⟩ | q
        · exact .inl ⟨q1, fun w2 hw2 => q2 w2 ((h3.2.1 hmj).trans hw2)⟩
        · exact .inr q
      · rw [Array.setIfInBounds_comm _ _ hji]
        exact h3.2.2

/-- The plan of a walk: the number that comes up next is light and nobody that changes memory could come before it, or it is the only one that may come up. -/
def planB (md : Region.Mode) (ops : Array Oper) (mu : Nat → Bool) : List Nat → Array Bool → Bool
  | [], listed => (Region.ready md ops listed).isEmpty
  | i :: l, listed =>
    ((Region.ready md ops listed).contains i && ((match ops[i]? with | some o => litB o | none => false) && Region.free md ops listed i && (List.range ops.size).all (fun j => !mu j || listed.getD j true || depB md ops i ops.size j)) || decide (Region.ready md ops listed = [i])) &&
      planB md ops mu l (listed.setIfInBounds i true)
/-- The same for both orders: two that make memory, and nobody else. -/
def planT (md : Region.Mode) (ops : Array Oper) (mu : Nat → Bool) : Nat → Pl → Array Bool → Bool
  | 0, .fin, listed => (Region.ready md ops listed).isEmpty
  | n + 1, .one i l, listed =>
    ((Region.ready md ops listed).contains i && ((match ops[i]? with | some o => litB o | none => false) && Region.free md ops listed i && (List.range ops.size).all (fun j => !mu j || listed.getD j true || depB md ops i ops.size j)) || decide (Region.ready md ops listed = [i])) &&
      planT md ops mu n l (listed.setIfInBounds i true)
  | n + 1, .two i a j b, listed => decide (Region.ready md ops listed = [i, j]) && planT md ops mu n a (listed.setIfInBounds i true) && planT md ops mu n b (listed.setIfInBounds j true)
  | _, _, _ => false
def planTOk (ops : Array Oper) (mu : Nat → Bool) (T : Pl) : Bool := Region.noSelect ops && planT .any ops mu ops.size T (Array.replicate ops.size false)
def planOk (ops : Array Oper) (mu : Nat → Bool) (l : List Nat) : Bool :=
  Region.noSelect ops && decide (l.length = ops.size) && planB .any ops mu l (Array.replicate ops.size false)
end
end Go.Abs
end
/- Regions. -/
set_option linter.unusedVariables false
noncomputable section
namespace Go.Abs
open Go

/-- What stands, stays. -/
def Grows {α : Type} (P : Program) (s : Sem α) : Prop := ∀ w r w1, s.run P w = .ok r w1 → Grow w w1
section
variable {P : Program} {α β : Type}
theorem Firm.grows {s : Sem α} (h : Firm P s) : Grows P s := fun w r w1 hr => by
  have := h w r w1 hr w (Grow.refl w)
  rw [hr] at this; cases this; exact Grow.refl _
theorem Grows.bind {s : Sem α} {f : α → Sem β} (hs : Grows P s) (hf : ∀ x, Grows P (f x)) : Grows P (s >>= f) := fun w r w1 h => by
  rw [Sem.run_bind] at h
  cases hq : s.run P w with
  | halt e w2 => rw [hq] at h; simp at h
  | ok v w2 => rw [hq] at h; simp only [Result.andThen_ok] at h; exact (hs _ _ _ hq).trans (hf _ _ _ _ h)
theorem grows_newObj (o : Obj) : Grows P (newObj o) := fun w r w1 h => by
  unfold newObj at h
  simp only [Sem.run] at h
  cases h
  refine ⟨by simp, fun k hk => ?_⟩
  simp [Array.getElem?_push, Nat.ne_of_lt hk]
theorem Dies.grows {s : Sem α} (h : Dies P s) : Grows P s := h.firm.grows
theorem grows_alloc (e : TypeId) : Grows P (Instr.alloc e true (.tuple #[])) := by
  unfold Instr.alloc newVar newRow
  simp only
  repeat' (first
    | exact (firm_zeroValue _).grows
    | exact grows_newObj _
    | exact (firm_pure _).grows
    | refine Grows.bind ?_ fun _ => ?_)
theorem grows_box (e : TypeId) (v : Value) : Grows P (Instr.box e v) := by
  unfold Instr.box newVar newRow
  repeat' (first
    | exact grows_newObj _
    | exact (firm_pure _).grows
    | refine Grows.bind ?_ fun _ => ?_)
theorem grows_buildSlice (t : TypeId) (n : Nat) (ps : Array (Nat × Value)) : Grows P (Instr.buildSlice t n ps) := by
  unfold Instr.buildSlice newRow
  repeat' (first
    | exact (firm_zeroValue _).grows
    | exact (firm_underlying _).grows
    | exact (firm_sizeOf _).grows
    | exact grows_newObj _
    | exact (firm_pure _).grows
    | exact (dies_stuck _).grows
    | exact (dies_unsupported _).grows
    | refine Grows.bind ?_ fun _ => ?_
    | split
    | dsimp only)
end
end Go.Abs
end
/- Regions: operations in a row; whatever order is picked. -/
set_option linter.unusedVariables false
noncomputable section
namespace Go.Abs
open Go

section
variable {P : Program}
theorem firm_mark (m : Mark) : Firm P (mark m) := fun w r w1 h w' _ => by cases h; rfl
theorem firm_askRoom (n : Nat) : Firm P (askRoom n) := by
  unfold askRoom
  split
  · exact firm_mark _
  · exact firm_pure _
theorem firm_asInt (v : Value) : Firm P (asInt v) := by
  unfold asInt
  repeat' (first
    | exact firm_pure _
    | exact (dies_stuck _).firm
    | exact (dies_unsupported _).firm
    | exact firm_asIntOf _
    | refine Firm.bind ?_ fun _ => ?_
    | split)
theorem dies_ite {α : Type} {c : Prop} [Decidable c] {s t : Sem α} (hs : Dies P s) (ht : Dies P t) : Dies P (if c then s else t) := by split <;> assumption
theorem grows_makeSlice (t : TypeId) (l c : Value) : Grows P (Instr.makeSlice t l c) := by
  unfold Instr.makeSlice newRow
  repeat' (first
    | exact (firm_zeroValue _).grows
    | exact (firm_underlying _).grows
    | exact (firm_sizeOf _).grows
    | exact (firm_typeInfo _).grows
    | exact (firm_asInt _).grows
    | exact (firm_askRoom _).grows
    | exact grows_newObj _
    | exact (firm_pure _).grows
    | exact (dies_stuck _).grows
    | exact (dies_runtimePanic _).grows
    | exact (Dies.bind (dies_runtimePanic _)).grows
    | exact (Dies.bind2 fun _ => dies_runtimePanic _).grows
    | exact (Dies.bind2 fun _ => Dies.bind (dies_runtimePanic _)).grows
    | exact (Dies.bind (Dies.bind2 fun _ => dies_runtimePanic _)).grows
    | exact (dies_unsupported _).grows
    | refine Grows.bind ?_ fun _ => ?_
    | split
    | dsimp only)
end

variable {P : Program} {H : Hint} {E : Env} {nt : Nat} {D D1 : St} {ex : List V} {w : World} {a : Act} {o : Oper} {K : Act → World → Prop} {Q : Exit → Act → World → Prop}

theorem wp_value {s : Sem Value} (hs : ∀ w, (execOp a.eval o).run P w = (s.run P w).andThen (fun u w' => .ok (.value u) w')) (hg : Grows P s) (hwp : o.wp P a w K Q) : o.wp P a w (fun a' w' => Grow w w' ∧ K a' w') Q := by
  unfold Oper.wp at hwp ⊢
  rw [hs] at hwp ⊢
  cases hq : s.run P w with
  | halt e w2 => rw [hq] at hwp; cases e <;> exact hwp
  | ok v w2 => rw [hq] at hwp; exact ⟨hg _ _ _ hq, hwp⟩
theorem wp_valueAt {s : Sem Value} (hs : (execOp a.eval o).run P w = (s.run P w).andThen (fun u w' => .ok (.value u) w')) (hg : ∀ q w', s.run P w = .ok q w' → Grow w w') (hwp : o.wp P a w K Q) : o.wp P a w (fun a' w' => Grow w w' ∧ K a' w') Q := by
  unfold Oper.wp at hwp ⊢
  rw [hs] at hwp ⊢
  cases hq : s.run P w with
  | halt e w2 => rw [hq] at hwp; cases e <;> exact hwp
  | ok v w2 => rw [hq] at hwp; exact ⟨hg _ _ hq, hwp⟩
theorem first_zero {k : Nat} {b : Option Addr} {n c : Nat} (w : World) : (Builtin.firstCells k 0 (.slice b n c)).run P w = .ok (#[] : Array Value) w := by
  cases b with
  | none => rfl
  | some A =>
    show (loadCells A (0 * k)).run P w = _
    rw [Nat.zero_mul]; rfl
/-- append on a slice without room leaves what stands. -/
theorem appendV_grow {t ty : TypeId} {r : Root} {p : List Nat} {d : Dec} {x y : V} {s u : Value} {D2 : St} (hN : Now H E nt D ex w a) (hl : look D r p = some (.own d 0 0 [])) (hv : Seen E nt D ex w (.ref r p) s) (hx : Seen E nt D ex w x u) (h : appendV P t (.ref r p) x D = some (y, D2)) :
    ∀ q w', (Builtin.append_ #[t, t] ty #[s, u]).run P w = .ok q w' → Grow w w' := by
  obtain ⟨base, hsb⟩ : ∃ base, s = .slice base 0 0 := by
    have hpr := hv.pr _ _ _ _ hl
    obtain ⟨R0, hR0⟩ := row_of_look (ex := ex) (hN.slots.lt hl) hl (e := (d, 0, 0, [])) (by simp [Abs.rows, rowsL])
    have hro : RowOk E w (d, 0, 0, []) := hN.inv.rows _ (hR0.mem_iff.2 (List.mem_append_left _ (by simp [Abs.rows, rowsL])))
    cases d with
    | nil => exact ⟨none, by simpa [hd] using hpr.symm⟩
    | emp A => exact ⟨some A, by simpa [hd] using hpr.symm⟩
    | blk g cap kk =>
      obtain ⟨_, _, q1, _, q2, _⟩ := hro
      have : cap = 0 := by omega
      subst this
      exact ⟨some ⟨g, 0, none⟩, by simpa [hd] using hpr.symm⟩
  subst hsb
  unfold appendV at h
  split at h
  case h_2 => cases h
  rename_i e ht
  split at h
  case h_2 => cases h
  rename_i sz by_ z hsz hby hz
  split at h
  · cases h
  split at h
  case h_2 => cases h
  rename_i n2 ncs D0 hbr
  obtain ⟨i, zv, hi, hzv, hzc⟩ := zeroT_info hz
  have hsi : i.size = sz := by obtain ⟨i', hi', e'⟩ := sizeT_info hsz; rw [hi] at hi'; cases hi'; exact e'
  have hbi : i.bytes = by_ := by unfold bytesT at hby; rw [hi] at hby; simpa using hby
  obtain ⟨us, b, c, eu, b1, b2, b3, b4, b5, b6, b7, b8⟩ := bring_ok (P := P) hN.inv hN.slots hx hbr
  subst eu
  have b8 : ∀ w' : World, w'.heap = w.heap → (Builtin.firstCells i.size n2 (.slice b n2 c)).run P w' = .ok us.toArray w' := fun w' hw => by
    have := b8 n2 (Nat.le_refl _) w' hw
    rw [hsi]
    rwa [List.take_of_length_le (by rw [b6, b5]; exact Nat.le_refl _)] at this
  simp only at h
  split at h
  case h_2 => cases h
  rename_i d' k n cs D1' htk
  split at h
  case isFalse => cases h
  rename_i hc
  have hn : n = 0 := by
    unfold take at htk
    split at htk
    · rename_i hl'
      simp only [Option.some.injEq, Prod.mk.injEq, V.own.injEq] at htk
      obtain ⟨cs', hk⟩ := b3 _ _ _ _ _ _ hl'
      rw [hl] at hk
      simp only [Option.some.injEq, V.own.injEq] at hk
      omega
    · cases htk
  subst hn
  intro q w' hrun
  by_cases h0 : n2 = 0
  · subst h0
    have e2 : us = [] := List.eq_nil_of_length_eq_zero (by rw [b6, b5]; simp)
    subst e2
    rw [run_append_in (w' := w) ht hi (b8 w rfl) (Nat.le_refl _) (fun A hA => rfl) (fun _ => rfl)] at hrun
    cases hrun; exact Grow.refl w
  · rw [run_append_grow' (z := zv) (xs := []) ht hi hzv (fun w' _ => first_zero w') b8 (by omega) hc.2.2.2 (by rw [hbi]; exact hc.2.2.1)] at hrun
    cases hrun
    refine ⟨by simp, fun k hk => ?_⟩
    show (w.heap.push _)[k]? = w.heap[k]?
    rw [Array.getElem?_push, if_neg (by omega)]
/-- An operation that leaves what stands. -/
theorem op_grow {C : Callee} {fz : Bool} (hC : CallsOk P H C) (hN : Now H E nt D ex w a) (hd : ∀ t, o.dst = some t → t < nt) (h : evOp P H C fz o D = some D1) (hK : Leads H E nt D ex w D1 K) (hq : (litB o || quietB H o D) = true) :
    o.wp P a w (fun a' w' => Grow w w' ∧ K a' w') Q := by
  have hwp : o.wp P a w K Q := op_ok hC hN hd h hK
  cases hl : litB o with
  | true =>
    obtain ⟨v, hv⟩ := lit_ok hN hd h hl
    have hr := hv w (Grow.refl w)
    unfold Oper.wp at hwp ⊢
    rw [hr] at hwp ⊢
    exact ⟨Grow.refl w, hwp⟩
  | false =>
    rw [hl, Bool.false_or] at hq
    cases ho : o.op with
    | alloc t => exact wp_value (s := Instr.alloc t true (.tuple #[])) (fun w => by simp only [execOp, ho, Sem.run_bind]; rfl) (grows_alloc _) hwp
    | box t x => exact wp_value (s := Instr.box t (a.eval x)) (fun w => by simp only [execOp, ho, Sem.run_bind]; rfl) (grows_box _ _) hwp
    | buildSlice t n ps => exact wp_value (s := Instr.buildSlice t n (ps.map fun (i, x) => (i, a.eval x))) (fun w => by simp only [execOp, ho, Sem.run_bind]; rfl) (grows_buildSlice _ _ _) hwp
    | makeSlice t x y => exact wp_value (s := Instr.makeSlice t (a.eval x) (a.eval y)) (fun w => by simp only [execOp, ho, Sem.run_bind]; rfl) (grows_makeSlice _ _ _) hwp
    | call c =>
      cases hc : c.callee with
      | value g => exact Oper.wp_mono (fun _ _ h => ⟨h.1 hq, h.2⟩) (hC hN hd ho hc (by cases fz; exact .inr h; exact .inl h) hK)
      | builtin bi =>
        have hap : bi = .append ∧ caplessV D c.argTypes.toList (evL H D c.args.toList) = true := by
          unfold quietB at hq
          simp only [ho, hc] at hq
          cases bi <;> first | exact ⟨rfl, hq⟩ | exact absurd hq (by decide) | cases hq
        obtain ⟨rfl, hq⟩ := hap
        unfold evOp at h
        simp only [ho, hc] at h
        split at h
        case h_2 => cases h
        rename_i vs hvs
        split at h
        case h_2 => cases h
        rename_i y D2 hy
        cases h
        rw [hvs] at hq
        unfold caplessV at hq
        split at hq
        case h_2 => cases hq
        rename_i t t' hts
        rw [Bool.and_eq_true, decide_eq_true_eq] at hq
        obtain ⟨htt, hq⟩ := hq
        subst htt
        split at hq
        case h_2 => cases hq
        rename_i r p x hvse
        cases hvse
        obtain ⟨d, hl⟩ : ∃ d, look D r p = some (.own d 0 0 []) := by
          unfold capless at hq
          split at hq
          · exact ⟨_, by assumption⟩
          · cases hq
        have hseen := seen_of (vs := [.ref r p, x]) hN hvs
        have hlen := evL_len hvs
        obtain ⟨x1, x2, ea, s1, s2⟩ : ∃ x1 x2, c.args = #[x1, x2] ∧ Seen E nt D ex w (.ref r p) (a.eval x1) ∧ Seen E nt D ex w x (a.eval x2) := by
          match hl : c.args.toList, hlen with
          | [x1, x2], _ =>
            rw [hl] at hseen
            obtain ⟨q1, e1, s1⟩ := hseen 0 _ rfl
            obtain ⟨q2, e2, s2⟩ := hseen 1 x rfl
            simp at e1 e2
            subst e1 e2
            exact ⟨_, _, by rw [← Array.toList_inj, hl], s1, s2⟩
        have et : c.argTypes = #[t, t] := by rw [← Array.toList_inj, hts]
        unfold doBuiltin at hy
        rw [hts] at hy
        simp only [if_true] at hy
        refine wp_valueAt (s := Builtin.append_ #[t, t] o.type #[a.eval x1, a.eval x2]) ?_ (appendV_grow (H := H) hN hl s1 s2 hy) hwp
        simp only [execOp, ho, resolve, hc, invoke, Sem.run_bind, Sem.run_pure, Result.andThen_ok, ea, et]
        simp [builtin]
      | _ => unfold quietB at hq; simp only [ho, hc] at hq; cases hq
    | _ => unfold quietB at hq; simp only [ho] at hq; cases hq

theorem ops_ok {C : Callee} (hC : CallsOk P H C) (hX : XSm H) (hS : CSm C) (ops : Array Oper) (fz : Nat → Bool) : ∀ (l : List Oper) (i : Nat) {E : Env} {D D2 : St} {w : World} {a : Act}, (∀ o ∈ l, ∀ t, o.dst = some t → t < nt) →
    Now H E nt D ex w a → evOps P H C ops fz i l D = some D2 → Leads H E nt D ex w D2 (Q .normal) → wpList P ops Q l a w
  | [], i, E, D, D2, w, a, hd, hN, h, hK => by
    cases h
    exact hK _ _ _ _ (SmS.refl _) (To.refl _ _ _ _ _) hN
  | o :: l, i, E, D, D2, w, a, hd, hN, h, hK => by
    unfold evOps at h
    unfold wpList
    cases hw : wantedV ops o D with
    | none => rw [hw] at h; cases h
    | some b =>
      rw [hw] at h
      rw [wanted_ok hN hw]
      have rest : ∀ (D1 : St), evOps P H C ops fz (i + 1) l D1 = some D2 → Leads H E nt D ex w D1 (wpList P ops Q l) := by
        intro D1 h1 E' D1' w' a' hs hT hN'
        have k := evOps_sm (P := P) ops fz hX hS l (i + 1) hs
        rw [h1] at k
        generalize hq : evOps P H C ops fz (i + 1) l D1' = q at k
        cases k with
        | some hs2 => exact ops_ok hC hX hS ops fz l (i + 1) (fun o ho => hd o (List.mem_cons_of_mem _ ho)) hN' hq (fun E2 D3 w2 a2 hs3 hT2 hN2 => hK _ _ _ _ (hs2.trans hs3) (hT.trans hT2) hN2)
      cases b with
      | false =>
        simp only [Bool.false_eq_true, if_false]
        exact skip_ok hN (hd o List.mem_cons_self) (rest _ h)
      | true =>
        simp only [if_true]
        simp only at h
        cases h1 : evOp P H C (fz i) o D with
        | none => rw [h1] at h; cases h
        | some D1 =>
          rw [h1] at h
          exact .inl (op_ok hC hN (hd o List.mem_cons_self) h1 (rest D1 h))

theorem draw_ok {C : Callee} (hC : CallsOk P H C) (hX : XSm H) (hS : CSm C) (ops : Array Oper) (fz mu : Nat → Bool) (hsel : Region.noSelect ops = true) (hd : ∀ o ∈ ops, ∀ t, o.dst = some t → t < nt)
    (hQ : ∀ c a a' w, Q (.panic c) a w → Q (.panic c) a' w) : ∀ (l : List Nat) (listed : Array Bool) {E : Env} {D D2 : St} {w : World} {a : Act}, planB .any ops mu l listed = true → Closed .any ops listed → listed.size = ops.size →
    Now H E nt D ex w a → evDraw P H C ops fz mu l D = some D2 → Leads H E nt D ex w D2 (Q .normal) → wpAnyX P .any ops mu Q l.length listed a w
  | [], listed, E, D, D2, w, a, hp, hcl, hsz, hN, h, hK => by
    cases h
    exact ⟨by simpa [planB] using hp, hK _ _ _ _ (SmS.refl _) (To.refl _ _ _ _ _) hN⟩
  | i :: l, listed, E, D, D2, w, a, hp, hcl, hsz, hN, h, hK => by
    unfold planB at hp
    rw [Bool.and_eq_true] at hp
    obtain ⟨hp, hp2⟩ := hp
    unfold evDraw at h
    cases ho : ops[i]? with
    | none => rw [ho] at h; cases h
    | some o =>
      rw [ho] at h
      simp only at h
      have hdo : ∀ t, o.dst = some t → t < nt := hd o (Array.mem_of_getElem? ho)
      have hri : i ∈ Region.ready .any ops listed := by
        rw [ho] at hp
        rcases Bool.or_eq_true _ _ ▸ hp with hp | hp
        · rw [Bool.and_eq_true] at hp
          simpa using hp.1
        · simp at hp; rw [hp]; simp
      have rest : ∀ (D1 : St), evDraw P H C ops fz mu l D1 = some D2 → Leads H E nt D ex w D1 (wpAnyX P .any ops mu Q l.length (listed.setIfInBounds i true)) := by
        intro D1 h1 E' D1' w' a' hs hT hN'
        have k := evDraw_sm (P := P) ops fz mu hX hS l hs
        rw [h1] at k
        generalize hq : evDraw P H C ops fz mu l D1' = q at k
        cases k with
        | some hs2 => exact draw_ok hC hX hS ops fz mu hsel hd hQ l _ hp2 (hcl.set hri) (by simpa using hsz) hN' hq (fun E2 D3 w2 a2 hs3 hT2 hN2 => hK _ _ _ _ (hs2.trans hs3) (hT.trans hT2) hN2)
      have sync : Region.ready .any ops listed = [i] → wpOp P ops Q i (fun a' w' => (mu i = false → Grow w w') ∧ wpAnyX P .any ops mu Q l.length (listed.setIfInBounds i true) a' w') a w → wpAnyX P .any ops mu Q (i :: l).length listed a w := by
        intro hr hw
        refine ⟨fun h0 => (by rw [hr] at h0; cases h0), fun j hj => ?_⟩
        rw [hr] at hj
        have : j = i := by simpa using hj
        subst this; exact hw
      have light : litB o = true → Region.free .any ops listed i = true → (List.range ops.size).all (fun j => !mu j || listed.getD j true || depB .any ops i ops.size j) = true → ∀ v, YieldsIf P ops (Grow w) o v a →
          wpAnyX P .any ops mu Q l.length (listed.setIfInBounds i true) (a.put o.dst v) w → wpAnyX P .any ops mu Q (i :: l).length listed a w := by
        intro hl hf hm v hy hw
        refine wpAnyX_first ho (Region.noSelect_spec hsel) (fun c a w h => hQ _ _ _ _ h) l.length listed a w hcl (fun j hj hu => ?_) (Region.free_spec ho hf) hri hy hw
        rw [List.all_eq_true] at hm
        rcases Nat.lt_or_ge j ops.size with hjs | hjs
        · have := hm j (List.mem_range.2 hjs)
          rw [hj, hu] at this
          simp at this
          exact depB_spec _ _ this
        · rw [Array.getD_eq_getD_getElem?, Array.getElem?_eq_none (by omega)] at hu; cases hu
      cases hw : wantedV ops o D with
      | none => rw [hw] at h; cases h
      | some b =>
        rw [hw] at h
        have hwo := wanted_ok hN hw
        rw [ho] at hp
        simp only [Bool.or_eq_true, Bool.and_eq_true, decide_eq_true_eq] at hp
        cases b with
        | false =>
          simp only at h
          have hk := skip_ok hN hdo (rest _ h)
          rcases hp with hp | hp
          · exact light hp.2.1.1 hp.2.1.2 hp.2.2 undef (.inr ⟨hwo, rfl⟩) hk
          · refine sync hp ?_
            unfold wpOp
            simp only [ho, hwo, Bool.false_eq_true, if_false]
            exact ⟨fun _ => Grow.refl w, hk⟩
        | true =>
          simp only at h
          split at h
          case isFalse => cases h
          rename_i hquiet
          cases h1 : evOp P H C (fz i) o D with
          | none => rw [h1] at h; cases h
          | some D1 =>
            rw [h1] at h
            rcases hp with hp | hp
            · obtain ⟨v, hv⟩ := lit_ok hN hdo h1 hp.2.1.1
              have hk : o.wp P a w (wpAnyX P .any ops mu Q l.length (listed.setIfInBounds i true)) Q := op_ok hC hN hdo h1 (rest D1 h)
              unfold Oper.wp at hk
              rw [hv w (Grow.refl w)] at hk
              exact light hp.2.1.1 hp.2.1.2 hp.2.2 v (.inl ⟨hwo, hv⟩) hk
            · refine sync hp ?_
              unfold wpOp
              simp only [ho, hwo, if_true]
              refine .inl ?_
              cases hm : mu i with
              | true => exact Oper.wp_mono (fun a' w' h => ⟨fun h0 => (by cases h0), h⟩) (op_ok hC hN hdo h1 (rest D1 h))
              | false =>
                rw [hm, Bool.false_or] at hquiet
                exact Oper.wp_mono (fun a' w' h => ⟨fun _ => h.1, h.2⟩) (op_grow hC hN hdo h1 (rest D1 h) hquiet)

theorem drawT_ok {C : Callee} (hC : CallsOk P H C) (hX : XSm H) (hS : CSm C) (ops : Array Oper) (fz mu : Nat → Bool) (hsel : Region.noSelect ops = true) (hd : ∀ o ∈ ops, ∀ t, o.dst = some t → t < nt)
    (hQ : ∀ c a a' w, Q (.panic c) a w → Q (.panic c) a' w) : ∀ (T : Pl) (n : Nat) (listed : Array Bool) {E : Env} {D D2 : St} {w : World} {a : Act}, planT .any ops mu n T listed = true → Closed .any ops listed → listed.size = ops.size →
    Now H E nt D ex w a → evDrawT P H C ops fz mu T D = some D2 → Leads H E nt D ex w D2 (Q .normal) → wpAnyX P .any ops mu Q n listed a w
  | .fin, 0, listed, E, D, D2, w, a, hp, hcl, hsz, hN, h, hK => by
    cases h
    exact ⟨by simpa [planT] using hp, hK _ _ _ _ (SmS.refl _) (To.refl _ _ _ _ _) hN⟩
  | .fin, n + 1, listed, E, D, D2, w, a, hp, hcl, hsz, hN, h, hK => by simp [planT] at hp
  | .one i l, 0, listed, E, D, D2, w, a, hp, hcl, hsz, hN, h, hK => by simp [planT] at hp
  | .two i A j B, 0, listed, E, D, D2, w, a, hp, hcl, hsz, hN, h, hK => by simp [planT] at hp
  | .one i l, n + 1, listed, E, D, D2, w, a, hp, hcl, hsz, hN, h, hK => by
    unfold planT at hp
    rw [Bool.and_eq_true] at hp
    obtain ⟨hp, hp2⟩ := hp
    unfold evDrawT stepT at h
    cases ho : ops[i]? with
    | none => rw [ho] at h; cases h
    | some o =>
      rw [ho] at h
      simp only at h
      have hdo : ∀ t, o.dst = some t → t < nt := hd o (Array.mem_of_getElem? ho)
      have hri : i ∈ Region.ready .any ops listed := by
        rw [ho] at hp
        rcases Bool.or_eq_true _ _ ▸ hp with hp | hp
        · rw [Bool.and_eq_true] at hp
          simpa using hp.1
        · simp at hp; rw [hp]; simp
      have rest : ∀ (D1 : St), evDrawT P H C ops fz mu l D1 = some D2 → Leads H E nt D ex w D1 (wpAnyX P .any ops mu Q n (listed.setIfInBounds i true)) := by
        intro D1 h1 E' D1' w' a' hs hT hN'
        have k := evDrawT_sm (P := P) ops fz mu hX hS l hs
        rw [h1] at k
        generalize hq : evDrawT P H C ops fz mu l D1' = q at k
        cases k with
        | some hs2 => exact drawT_ok hC hX hS ops fz mu hsel hd hQ l n _ hp2 (hcl.set hri) (by simpa using hsz) hN' hq (fun E2 D3 w2 a2 hs3 hT2 hN2 => hK _ _ _ _ (hs2.trans hs3) (hT.trans hT2) hN2)
      have sync : Region.ready .any ops listed = [i] → wpOp P ops Q i (fun a' w' => (mu i = false → Grow w w') ∧ wpAnyX P .any ops mu Q n (listed.setIfInBounds i true) a' w') a w → wpAnyX P .any ops mu Q (n + 1) listed a w := by
        intro hr hw
        refine ⟨fun h0 => (by rw [hr] at h0; cases h0), fun j hj => ?_⟩
        rw [hr] at hj
        have : j = i := by simpa using hj
        subst this; exact hw
      have light : litB o = true → Region.free .any ops listed i = true → (List.range ops.size).all (fun j => !mu j || listed.getD j true || depB .any ops i ops.size j) = true → ∀ v, YieldsIf P ops (Grow w) o v a →
          wpAnyX P .any ops mu Q n (listed.setIfInBounds i true) (a.put o.dst v) w → wpAnyX P .any ops mu Q (n + 1) listed a w := by
        intro hl hf hm v hy hw
        refine wpAnyX_first ho (Region.noSelect_spec hsel) (fun c a w h => hQ _ _ _ _ h) n listed a w hcl (fun j hj hu => ?_) (Region.free_spec ho hf) hri hy hw
        rw [List.all_eq_true] at hm
        rcases Nat.lt_or_ge j ops.size with hjs | hjs
        · have := hm j (List.mem_range.2 hjs)
          rw [hj, hu] at this
          simp at this
          exact depB_spec _ _ this
        · rw [Array.getD_eq_getD_getElem?, Array.getElem?_eq_none (by omega)] at hu; cases hu
      cases hw : wantedV ops o D with
      | none => rw [hw] at h; cases h
      | some b =>
        rw [hw] at h
        have hwo := wanted_ok hN hw
        rw [ho] at hp
        simp only [Bool.or_eq_true, Bool.and_eq_true, decide_eq_true_eq] at hp
        cases b with
        | false =>
          simp only [Option.bind_some] at h
          have hk := skip_ok hN hdo (rest _ h)
          rcases hp with hp | hp
          · exact light hp.2.1.1 hp.2.1.2 hp.2.2 undef (.inr ⟨hwo, rfl⟩) hk
          · refine sync hp ?_
            unfold wpOp
            simp only [ho, hwo, Bool.false_eq_true, if_false]
            exact ⟨fun _ => Grow.refl w, hk⟩
        | true =>
          simp only at h
          split at h
          case isFalse => cases h
          rename_i hquiet
          cases h1 : evOp P H C (fz i) o D with
          | none => rw [h1] at h; cases h
          | some D1 =>
            rw [h1] at h
            simp only [Option.bind_some] at h
            rcases hp with hp | hp
            · obtain ⟨v, hv⟩ := lit_ok hN hdo h1 hp.2.1.1
              have hk : o.wp P a w (wpAnyX P .any ops mu Q n (listed.setIfInBounds i true)) Q := op_ok hC hN hdo h1 (rest D1 h)
              unfold Oper.wp at hk
              rw [hv w (Grow.refl w)] at hk
              exact light hp.2.1.1 hp.2.1.2 hp.2.2 v (.inl ⟨hwo, hv⟩) hk
            · refine sync hp ?_
              unfold wpOp
              simp only [ho, hwo, if_true]
              refine .inl ?_
              cases hm : mu i with
              | true => exact Oper.wp_mono (fun a' w' h => ⟨fun h0 => (by cases h0), h⟩) (op_ok hC hN hdo h1 (rest D1 h))
              | false =>
                rw [hm, Bool.false_or] at hquiet
                exact Oper.wp_mono (fun a' w' h => ⟨fun _ => h.1, h.2⟩) (op_grow hC hN hdo h1 (rest D1 h) hquiet)
  | .two i A j B, n + 1, listed, E, D, D2, w, a, hp, hcl, hsz, hN, h, hK => by
    unfold planT at hp
    rw [Bool.and_eq_true, Bool.and_eq_true, decide_eq_true_eq] at hp
    obtain ⟨⟨hr, hpA⟩, hpB⟩ := hp
    -- one of the two, whatever follows
    have half : ∀ (i : Nat) (l : Pl) (D2' : St), i ∈ Region.ready .any ops listed → planT .any ops mu n l (listed.setIfInBounds i true) = true → ((stepT P H C ops fz mu i D).bind fun D1 => evDrawT P H C ops fz mu l D1) = some D2' → SmS D2 D2' →
        (∀ (D1 : St), evDrawT P H C ops fz mu l D1 = some D2' → Leads H E nt D ex w D1 (wpAnyX P .any ops mu Q n (listed.setIfInBounds i true))) →
        wpOp P ops Q i (fun a' w' => (mu i = false → Grow w w') ∧ wpAnyX P .any ops mu Q n (listed.setIfInBounds i true) a' w') a w := by
      intro i l D2' hri hp2 h hsm rest
      unfold stepT at h
      cases ho : ops[i]? with
      | none => rw [ho] at h; cases h
      | some o =>
        rw [ho] at h
        simp only at h
        have hdo : ∀ t, o.dst = some t → t < nt := hd o (Array.mem_of_getElem? ho)
        cases hw : wantedV ops o D with
        | none => rw [hw] at h; cases h
        | some b =>
          rw [hw] at h
          have hwo := wanted_ok hN hw
          cases b with
          | false =>
            simp only [Option.bind_some] at h
            have hk := skip_ok hN hdo (rest _ h)
            unfold wpOp
            simp only [ho, hwo, Bool.false_eq_true, if_false]
            exact ⟨fun _ => Grow.refl w, hk⟩
          | true =>
            simp only at h
            split at h
            case isFalse => cases h
            rename_i hquiet
            cases h1 : evOp P H C (fz i) o D with
            | none => rw [h1] at h; cases h
            | some D1 =>
              rw [h1] at h
              simp only [Option.bind_some] at h
              unfold wpOp
              simp only [ho, hwo, if_true]
              refine .inl ?_
              cases hm : mu i with
              | true => exact Oper.wp_mono (fun a' w' h => ⟨fun h0 => (by cases h0), h⟩) (op_ok hC hN hdo h1 (rest D1 h))
              | false =>
                rw [hm, Bool.false_or] at hquiet
                exact Oper.wp_mono (fun a' w' h => ⟨fun _ => h.1, h.2⟩) (op_grow hC hN hdo h1 (rest D1 h) hquiet)
    have hri : i ∈ Region.ready .any ops listed := by rw [hr]; simp
    have hrj : j ∈ Region.ready .any ops listed := by rw [hr]; simp
    unfold evDrawT at h
    generalize hqa : ((stepT P H C ops fz mu i D).bind fun D1 => evDrawT P H C ops fz mu A D1) = qa at h
    generalize hqb : ((stepT P H C ops fz mu j D).bind fun D1 => evDrawT P H C ops fz mu B D1) = qb at h
    cases qa with
    | none => cases h
    | some Da =>
      cases qb with
      | none => cases h
      | some Db =>
        obtain ⟨rfl, hab⟩ := bothO_some h
        refine ⟨fun h0 => (by rw [hr] at h0; cases h0), fun x hx => ?_⟩
        rw [hr] at hx
        have hx : x = i ∨ x = j := by simpa using hx
        rcases hx with rfl | rfl
        · refine half x A Da hri hpA hqa (SmS.refl _) ?_
          intro D1 h1 E' D1' w' a' hs hT hN'
          have k := evDrawT_sm (P := P) ops fz mu hX hS A hs
          rw [h1] at k
          generalize hq : evDrawT P H C ops fz mu A D1' = q at k
          cases k with
          | some hs2 => exact drawT_ok hC hX hS ops fz mu hsel hd hQ A n _ hpA (hcl.set hri) (by simpa using hsz) hN' hq (fun E2 D3 w2 a2 hs3 hT2 hN2 => hK _ _ _ _ (hs2.trans hs3) (hT.trans hT2) hN2)
        · refine half x B Db hrj hpB hqb hab ?_
          intro D1 h1 E' D1' w' a' hs hT hN'
          have k := evDrawT_sm (P := P) ops fz mu hX hS B hs
          rw [h1] at k
          generalize hq : evDrawT P H C ops fz mu B D1' = q at k
          cases k with
          | some hs2 => exact drawT_ok hC hX hS ops fz mu hsel hd hQ B n _ hpB (hcl.set hrj) (by simpa using hsz) hN' hq (fun E2 D3 w2 a2 hs3 hT2 hN2 => hK _ _ _ _ ((hab.trans hs2).trans hs3) (hT.trans hT2) hN2)
end Go.Abs
end
