/- Joined: AbsPY3. -/
import Derived.Test.YtbkhamjlfadfoaaDoorAbs28
set_option linter.all false
set_option linter.unusedVariables false
noncomputable section
namespace Go.Abs
open Go Go.Proofs
set_option maxRecDepth 100000
open Classical in
set_option maxHeartbeats 8000000 in
theorem law3 (z : Ask) (hB : ScnB z.s) (hpm : z.pm = true) : ∃ N, AnsN N Tryd.prog H14 3 [askV z] (.bool true) := by
  obtain ⟨N17, hN17⟩ := awake17
  obtain ⟨n, t, N, ho⟩ : ∃ n t N, MayS z → AskOk z n t N := by
    by_cases hm : MayS z
    · obtain ⟨n, t, N, h⟩ := askOk_ex hB hm
      exact ⟨n, t, N, fun _ => h⟩
    · exact ⟨0, 0, 0, fun h => absurd h hm⟩
  refine ⟨max (max N17 2000) (max (max N 100 + 3) 1111 + 1) + 1, AnsN.of (fn := Tryd.f3) (t := 2) (by rfl) Tryd.func3 rfl rfl (by rfl) (by rfl) fun k hk nx => ?_⟩
  have c17 := callP (k := k) hN17 (by omega) (by simp [ptrsL]) rfl
  have c16 := callP (k := k) (may16 (lentA z)) (by omega) (by simp [askV, askL, scL, ptrsL, ptrs, lentA, lentS, nil_uL]) rfl
  simp only [askV, askL, scL, lentA, lentS, List.length_map, List.cons_append, List.nil_append] at c16
  by_cases hm : MayS z
  · have e1 : decide (MayS (lentA z)) = true := by simp [MayS.lent, hm]
    simp only [lentA, lentS] at e1
    rw [e1] at c16
    have o := ho hm
    have c18 := fun A cap st m nx dst => o.call (k := k) (by omega) true A cap z.ws o.l o.w st m nx dst
    have c18' := fun A cap st m nx dst => o.call (k := k) (by omega) false A cap z.ws o.l o.w st m nx dst
    have hP := o.ph (nx + 1) o.l o.w
    obtain ⟨hP1, hPr⟩ := hP.phases o.hn (by have := o.h3; omega) (t + 1)
    obtain ⟨x, hx⟩ := phases_agree hP o.hn o.good o.hears
    have hon1 : ∃ f, f < n ∧ hon z.s f = true := by
      obtain ⟨f, h1, h2⟩ := honest_king o.good
      exact ⟨f, by have := o.h3; omega, h2⟩
    obtain ⟨b, hb⟩ : ∃ b, phases n t ⟨nwO z.s (nx + 1), z.ws⟩ (t + 1) = b := ⟨_, rfl⟩
    have hb' : pkO z.s (nx + 1) n t z.ws = b := hb
    rw [hb] at hx hP1
    have c19 := fun pm A cap => callP (one19 (lentS z.s) o.c (n := n) o.hn o.h13 pm A cap b.vs hP1.l x hx hon1) (k := k) (by omega) (by simp [scV, scL, ptrsL, ptrs, lentS, nil_uL]) rfl
    have hlt := agM_lt (s := z.s) (a := nx + 1) (σ := b.σ) hP1.o.tp
    obtain ⟨M, hM⟩ : ∃ M, agM z.s (nx + 1) b.σ = M := ⟨_, rfl⟩
    rw [hM] at hlt
    have t1 := hB.T.c
    have t2 := hB.T.d
    have t3 := hB.T.t
    have hn := o.hn
    have ht := o.ht
    have vl := o.l
    have bl := hP1.l
    simp only [scV, scL, t1, t2, t3, hn, ht, lentS, List.length_map, vl] at c18 c18' c19 c16
    have nb := noBorL_rs hB.T.r
    replace c18 := fun A cap st m dst => c18 A cap st m (nx + 1) dst
    replace c18' := fun A cap st m dst => c18' A cap st m (nx + 1) dst
    simp only [hb', hM] at c18 c18'
    simp [-reach, -doCall, doCall_eq, entryS, askV, askL, scL, t1, t2, t3, hn, ht, vl, c16, c17, c18, c18', c19, hpm, noBorL_iL, noBorL_devs, nb, bl]
    rintro a b (⟨rfl, -⟩ | h)
    · exact Nat.le_refl _
    · have := (hlt (a, b) h).1
      have : nx + 1 ≤ a := this
      omega
  · have e1 : decide (MayS (lentA z)) = false := by simp [MayS.lent, hm]
    simp only [lentA, lentS] at e1
    rw [e1] at c16
    simp [-reach, -doCall, doCall_eq, entryS, askV, askL, scL, c16, c17]
end Go.Abs
end
