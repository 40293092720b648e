/- columbaryref25 on boxes: copies, what is alike, a new one, one found, a message more, one less, a freed one, how many. -/
import Derived.Test.YtgjpcliaggpcaaaQ2
set_option linter.unusedVariables false
set_option linter.unusedSimpArgs false
set_option maxRecDepth 100000
namespace Go.Proofs.Ytgjpcliaggpcaaa.Ab
open Go

/-- append(nil, l...), of anything. -/
theorem app_all {P : Program} {X : Nat → Bool} {H : AHeap} {α : Type} {r : Rp α} {t e : TypeId} {by_ : Nat} {v : Value} {l : List α} {f : List Nat} {K : Value → AHeap → Prop} {tg : Tag K} (ha : apK P t = some (e, r.sz, by_)) (h : Sl r H v l f) (hlt : ∀ y ∈ f, y < H.next) (hn : l.length * by_ < 140737488355328)
    (hk : ∀ v' H' f', Sl r H' v' l f' → Old H H' → (∀ y ∈ f', y ∈ f ∨ y = H.next) → (∀ y ∈ f', y < H'.next) → H'.next ≤ H.next + 1 → K v' H') : cpsA P X H (appendA P t (.slice none 0 0) v H) K tg := by
  obtain ⟨cs, g, e1, e2, e3, e4⟩ := h.src rfl
  by_cases h0 : l = []
  · subst h0
    rw [app_none ha e1, cps_same]
    exact hk _ H [] (.inl ⟨rfl, rfl, rfl⟩) (Old.refl H) (by simp) (by simp) (Nat.le_succ _)
  · have hpos : 0 < l.length := List.length_pos_iff.2 h0
    rw [app_nil ha e1 hn hpos, cps_push]
    refine hk _ _ (H.next :: g) (.inr (.inr ⟨H.next, 0, _, _, g, rfl, h0, Nat.le_refl _, rfl, by rw [get_push, if_pos rfl], e3.keep fun y hy => get_push_lt (hlt y (e4 y hy))⟩)) (Old.push H _) (fun y hy => ?_) (fun y hy => ?_) (Nat.le_refl _)
    · rcases List.mem_cons.1 hy with h | h
      · exact .inr h
      · exact .inl (e4 y h)
    · rw [next_push]
      rcases List.mem_cons.1 hy with h | h
      · omega
      · have := hlt y (e4 y h); omega
/-- Likewise, of what leans on nothing. -/
theorem app_flat {P : Program} {X : Nat → Bool} {H : AHeap} {α : Type} {r : Rp α} {t e : TypeId} {by_ : Nat} {v : Value} {l : List α} {f : List Nat} {K : Value → AHeap → Prop} {tg : Tag K} (ha : apK P t = some (e, r.sz, by_)) (hr : ∀ {cs g}, Arr r H cs l g → g = []) (h : Sl r H v l f) (hn : l.length * by_ < 140737488355328)
    (hk : ∀ v' H' f', Sl r H' v' l f' → Own H.next H' f' → Old H H' → H'.next ≤ H.next + 1 → K v' H') : cpsA P X H (appendA P t (.slice none 0 0) v H) K tg := by
  obtain ⟨cs, g, e1, e2, e3, e4⟩ := h.src rfl
  have := hr e3; subst this
  by_cases h0 : l = []
  · subst h0
    rw [app_none ha e1, cps_same]
    exact hk _ H [] (.inl ⟨rfl, rfl, rfl⟩) ⟨by simp, by simp, by simp⟩ (Old.refl H) (Nat.le_succ _)
  · have hpos : 0 < l.length := List.length_pos_iff.2 h0
    rw [app_nil ha e1 hn hpos, cps_push]
    exact hk _ _ [H.next] (.inr (.inr ⟨H.next, 0, _, _, [], rfl, h0, Nat.le_refl _, rfl, by rw [get_push, if_pos rfl], e3.keep (by simp)⟩)) ⟨by simp, by simp, by simp [next_push]⟩ (Old.push H _) (Nat.le_refl _)
--MARK
theorem cell0 {B : ABlk} {k : Nat} {x y : Value} (h : (B.cells.drop k).take 2 = [x, y]) : B.cells[k]? = some x := by
  have : ((B.cells.drop k).take 2)[0]? = some x := by rw [h]; rfl
  rw [List.getElem?_take, if_pos (by decide), List.getElem?_drop, Nat.add_zero] at this
  exact this
theorem cell1 {B : ABlk} {k : Nat} {x y : Value} (h : (B.cells.drop k).take 2 = [x, y]) : B.cells[k + 1]? = some y := by
  have : ((B.cells.drop k).take 2)[1]? = some y := by rw [h]; rfl
  rw [List.getElem?_take, if_pos (by decide), List.getElem?_drop] at this
  exact this
theorem eq_val {a b c d : Int} : eqK Try.prog 10000 25 (.agg #[.int .i64 a, .int .i64 b]) (.agg #[.int .i64 c, .int .i64 d]) = (match iEq a c with
    | true => (match iEq b d with
      | true => some true
      | false => some false)
    | false => some false) := by kernel_rfl
theorem neq_val {a b c d : Int} {h : KH} : binO Try.prog .neq 25 (.agg #[.int .i64 a, .int .i64 b]) (.agg #[.int .i64 c, .int .i64 d]) h = .ok (.bool (!(decide (a = c) && decide (b = d)))) h := by
  simp only [binO, binK, eq_val, iEq_eq]
  by_cases h1 : a = c <;> by_cases h2 : b = d <;> simp [h1, h2]
theorem neq_self {a b : Int} {h : KH} : binO Try.prog .neq 25 (.agg #[.int .i64 a, .int .i64 b]) (.agg #[.int .i64 a, .int .i64 b]) h = .ok (.bool false) h := by
  rw [neq_val]; simp
theorem un_bool : Try.prog.underlying 4 = some .bool := by kernel_rfl
theorem neq_bool {a b : Bool} {h : KH} : binO Try.prog .neq 4 (.bool a) (.bool b) h = .ok (.bool (!(a == b))) h := by
  simp only [binO, binK, eqK_at, un_bool]
  cases a <;> cases b <;> rfl

/-- Alike: the same list. -/
theorem sameV_w {H : AHeap} {v1 v2 : Value} {l : List (Int × Int)} {f1 f2 : List Nat} (h1 : Sl valR H v1 l f1) (h2 : Sl valR H v2 l f2) (hl : l.length < 1000000) :
    FnW Try.prog 58 #[v1, v2] H (fun w H' => w = .bool true ∧ H = H') := by
  refine fw_58 (Nat.le_refl _) fun hf => ?_
  simp only [Try.f58, Option.getD_some]
  obtain ⟨a1, c1, hv1⟩ := h1.val
  obtain ⟨a2, c2, hv2⟩ := h2.val
  have nl : (l.length = l.length) = True := eq_self _
  simp only [go_sem, hv1, hv2, nl]
  refine w_for 67100720 l.length (fun i V H1 => V 13 = .int .i64 (i : Nat) ∧ H = H1) ⟨by simp only [go_sem]; rfl, rfl⟩ ?_ ?_ (by rfl)
  · rintro i V H1 hi ⟨e13, rfl⟩
    have hx0 : l[i]? = some l[i] := List.getElem?_eq_getElem hi
    obtain ⟨b, o, c, B, g, hv, hB, _, _, hbl, hE⟩ := h1.at hx0
    obtain ⟨b', o', c', B', g', hv', hB', _, _, hbl', hE'⟩ := h2.at hx0
    rw [hv1] at hv
    cases hv
    rw [hv2] at hv'
    cases hv'
    have hr := (valR_E.1 hE).1
    have hr' := (valR_E.1 hE').1
    have k1 : o + i * 2 + 2 ≤ B.cells.length := hbl
    have k2 : o' + i * 2 + 2 ≤ B'.cells.length := hbl'
    have k3 : (B.cells.drop (o + i * 2)).take 2 = [.int .i64 l[i].1, .int .i64 l[i].2] := hr
    have k4 : (B'.cells.drop (o' + i * 2)).take 2 = [.int .i64 l[i].1, .int .i64 l[i].2] := hr'
    simp only [go_sem, e13, hi, hB, hB', k1, k2, k3, k4, neq_self, wrap_succ hi (by omega)]
  · rintro V H1 ⟨e13, rfl⟩
    simp only [go_sem, e13]
theorem sameM_w {H : AHeap} {cs1 cs2 : List Value} {m : Msg} {f1 f2 : List Nat} (h1 : msgR.E H cs1 m f1) (h2 : msgR.E H cs2 m f2) (l1 : ∀ y ∈ f1, y < H.next) (l2 : ∀ y ∈ f2, y < H.next) (hl : m.2.2.length < 1000000) :
    FnW Try.prog 45 #[.agg cs1.toArray, .agg cs2.toArray] H (fun w H' => w = .bool true ∧ Old H H') := by
  refine fw_45 (Nat.le_refl _) fun hf => ?_
  simp only [Try.f45, Option.getD_some]
  obtain ⟨v1, rfl, s1⟩ := msgR_E.1 h1
  obtain ⟨v2, rfl, s2⟩ := msgR_E.1 h2
  have nl : (m.1 = m.1) = True := eq_self _
  have nl2 : (m.2.1 = m.2.1) = True := eq_self _
  simp only [go_sem, nl, nl2]
  refine Cll.by (sameV_w (s1.keep fun y hy => ?_) (s2.keep fun y hy => ?_) hl) ?_
  · have := l1 y hy
    rw [get_push_lt (by rw [next_push]; omega), get_push_lt this]
  · have := l2 y hy
    rw [get_push_lt (by rw [next_push]; omega), get_push_lt this]
  rintro _ _ - ⟨rfl, rfl⟩
  simp only [go_sem]
  exact (Old.push H _).trans (Old.push _ _)
theorem sameB_w {H : AHeap} {v1 v2 : Value} {l : List (Bool × List Msg)} {f1 f2 : List Nat} (h1 : Sl boxR H v1 l f1) (h2 : Sl boxR H v2 l f2) (l1 : ∀ y ∈ f1, y < H.next) (l2 : ∀ y ∈ f2, y < H.next) (hl : Small l) :
    FnW Try.prog 44 #[v1, v2] H (fun w H' => w = .bool true ∧ Old H H') := by
  refine fw_44 (Nat.le_refl _) fun hf => ?_
  simp only [Try.f44, Option.getD_some]
  have hll := hl.len
  obtain ⟨a1, c1, hv1⟩ := h1.val
  obtain ⟨a2, c2, hv2⟩ := h2.val
  have nl : (l.length = l.length) = True := eq_self _
  simp only [go_sem, hv1, hv2, nl]
  refine w_for 4722366482869645197424 l.length (fun i V H1 => V 14 = .int .i64 (i : Nat) ∧ Old H H1) ⟨by simp only [go_sem]; rfl, Old.refl H⟩ ?_ ?_ (by rfl)
  · rintro i V H1 hi ⟨e14, hold⟩
    have hx0 : l[i]? = some l[i] := List.getElem?_eq_getElem hi
    generalize hx : l[i] = x at hx0
    have hxl : x ∈ l := hx ▸ List.getElem_mem hi
    have hxm := hl.mail x hxl
    obtain ⟨b, o, c, B, g, hv, hB, hbf, hgf, hbl, hE⟩ := (h1.keep fun y hy => hold.get y (l1 y hy)).at hx0
    obtain ⟨b', o', c', B', g', hv', hB', hbf', hgf', hbl', hE'⟩ := (h2.keep fun y hy => hold.get y (l2 y hy)).at hx0
    rw [hv1] at hv
    cases hv
    rw [hv2] at hv'
    cases hv'
    obtain ⟨w1, r1, s1⟩ := boxR_E.1 hE
    obtain ⟨w2, r2, s2⟩ := boxR_E.1 hE'
    obtain ⟨p1, q1, hw1⟩ := s1.val
    obtain ⟨p2, q2, hw2⟩ := s2.val
    subst hw1
    subst hw2
    have d0 : B.cells[o + i * 2]? = some (.bool x.1) := cell0 r1
    have d1 : B.cells[o + i * 2 + 1]? = some (.slice p1 x.2.length q1) := cell1 r1
    have d0' : B'.cells[o' + i * 2]? = some (.bool x.1) := cell0 r2
    have d1' : B'.cells[o' + i * 2 + 1]? = some (.slice p2 x.2.length q2) := cell1 r2
    have nb : (!(x.1 == x.1)) = false := by simp
    have nm : (x.2.length = x.2.length) = True := eq_self _
    simp only [go_sem, e14, hi, hB, hB', d0, d1, d0', d1', neq_bool, nb, nm]
    refine w_for 2361182678484869185616 x.2.length (fun j V' H3 => V' 49 = .int .i64 (j : Nat) ∧ Old H1 H3) ⟨by simp only [go_sem]; rfl, Old.refl H1⟩ ?_ ?_ (by rfl)
    · rintro j V' H3 hj ⟨e49, hold3⟩
      have hy0 : x.2[j]? = some x.2[j] := List.getElem?_eq_getElem hj
      generalize hy : x.2[j] = m at hy0
      have hmx : m ∈ x.2 := hy ▸ List.getElem_mem hj
      have hlt1 : ∀ y ∈ g, y < H1.next := fun y hy => Nat.lt_of_lt_of_le (l1 y (hgf y hy)) hold.nx
      have hlt2 : ∀ y ∈ g', y < H1.next := fun y hy => Nat.lt_of_lt_of_le (l2 y (hgf' y hy)) hold.nx
      obtain ⟨b3, o3, c3, B3, g3, hv3, hB3, hbf3, hgf3, hbl3, hE3⟩ := (s1.keep fun y hy => hold3.get y (hlt1 y hy)).at hy0
      obtain ⟨b4, o4, c4, B4, g4, hv4, hB4, hbf4, hgf4, hbl4, hE4⟩ := (s2.keep fun y hy => hold3.get y (hlt2 y hy)).at hy0
      cases hv3
      cases hv4
      have t1 : H3.get b = some B := by rw [hold3.get b (Nat.lt_of_lt_of_le (l1 b hbf) hold.nx)]; exact hB
      have t2 : H3.get b' = some B' := by rw [hold3.get b' (Nat.lt_of_lt_of_le (l2 b' hbf') hold.nx)]; exact hB'
      have k1 : o3 + j * 3 + 3 ≤ B3.cells.length := hbl3
      have k2 : o4 + j * 3 + 3 ≤ B4.cells.length := hbl4
      simp only [go_sem, e14, e49, hi, hj, t1, t2, d1, d1', hB3, hB4, k1, k2]
      refine Cll.by (sameM_w hE3 hE4 (fun y hy => Nat.lt_of_lt_of_le (hlt1 y (hgf3 y hy)) hold3.nx) (fun y hy => Nat.lt_of_lt_of_le (hlt2 y (hgf4 y hy)) hold3.nx) (hl.args x hxl m hmx)) ?_
      rintro _ H5 - ⟨rfl, hold5⟩
      simp only [go_sem, e49, wrap_succ hj (by omega)]
      exact hold3.trans hold5
    · rintro V' H3 ⟨e49, hold3⟩
      simp only [go_sem, e49, e14, wrap_succ hi (by omega)]
      exact hold.trans hold3
  · rintro V H1 ⟨e14, hold⟩
    simp only [go_sem, e14]
    exact hold

theorem rmessage_w {H : AHeap} {cs : List Value} {m : Msg} {f : List Nat} (h : msgR.E H cs m f) (hlt : ∀ y ∈ f, y < H.next) (ha : m.2.2.length < 1000000) :
    FnW Try.prog 69 #[.agg cs.toArray] H (fun v' H' => Old H H' ∧ ∃ cs' f', v' = .agg cs'.toArray ∧ msgR.E H' cs' m f' ∧ Own H.next H' f') := by
  refine fw_69 (Nat.le_refl _) fun hf => ?_
  simp only [Try.f69, Option.getD_some]
  obtain ⟨v, rfl, hs⟩ := msgR_E.1 h
  have hX : H.fz H.next = false := hf.fresh (Nat.le_refl _)
  have hX1 : H.fz (H.next + 1) = false := hf.fresh (Nat.le_succ _)
  simp only [go_sem]
  have hs1 : Sl valR ((H.push ⟨[.int .i64 m.1, .int .i64 m.2.1, v], 76, false, false⟩).push ⟨[.int .i64 0, .int .i64 0, .slice none 0 0], 76, false, false⟩) v m.2.2 f := hs.keep fun y hy => by
    have := hlt y hy
    rw [get_push_lt (by rw [next_push]; omega), get_push_lt this]
  refine app_flat (r := valR) ap_28 val_nf hs1 (by omega) ?_
  intro v2 H2 f2 hs2 ho2 hold2 hnx2
  have g0 : H2.get H.next = some ⟨[.int .i64 m.1, .int .i64 m.2.1, v], 76, false, false⟩ := by
    rw [hold2.get _ (by rw [next_push, next_push]; omega), get_push, if_neg (by rw [next_push]; omega), get_push, if_pos rfl]
  have g1 : H2.get (H.next + 1) = some ⟨[.int .i64 0, .int .i64 0, .slice none 0 0], 76, false, false⟩ := by
    rw [hold2.get _ (by rw [next_push, next_push]; omega), get_push, if_pos (by rw [next_push])]
  obtain ⟨a2, c2, hv2⟩ := hs2.val
  subst hv2
  simp only [go_sem, g0, g1, hX, hX1]
  have hold : Old H H2 := (Old.push H _).trans ((Old.push _ _).trans hold2)
  have hn2 : H.next + 2 ≤ H2.next := hold2.nx
  refine ⟨(hold.upd (Nat.le_refl _) _).upd (Nat.le_succ _) _, [.int .i64 m.1, .int .i64 m.2.1, .slice a2 m.2.2.length c2], f2, rfl, msgR_E.2 ⟨_, rfl, hs2.keep fun y hy => ?_⟩, ⟨ho2.nd, fun y hy => ?_, ho2.hi⟩⟩
  · have h6 : H.next + 2 ≤ y := ho2.lo y hy
    rw [get_upd, if_neg (by omega), get_upd, if_neg (by omega)]
  · have h6 : H.next + 2 ≤ y := ho2.lo y hy
    omega

theorem rcopied_w0 {H : AHeap} {v : Value} {l : List (Bool × List Msg)} {f : List Nat} (h : Sl boxR H v l f) (hlt : ∀ y ∈ f, y < H.next) (hl : Small l) :
    FnW Try.prog 68 #[v] H (fun v' H' => Old H H' ∧ ∃ f', Ow boxO 81 H' v' l f' ∧ Own H.next H' f') := by
  refine fw_68 (Nat.le_refl _) fun hf => ?_
  simp only [Try.f68, Option.getD_some]
  obtain ⟨a0, c0, hv0⟩ := h.val
  have hll := hl.len
  simp only [go_sem, hv0]
  refine w_for 274877905256 l.length (fun i V H1 => V 11 = .int .i64 (i : Nat) ∧ ∃ out g, V 3 = out ∧ Ow boxO 81 H1 out (l.take i) g ∧ Own H.next H1 g ∧ Old H H1) ⟨by simp only [go_sem]; rfl, _, [], by simp only [go_sem]; rfl, by simpa using Ow.nil boxO 81 H, ⟨by simp, by simp, by simp⟩, Old.refl H⟩ ?_ ?_ (by rfl)
  · rintro i V H1 hi ⟨e11, out, g, e3, how, hown, hold⟩
    have hx0 : l[i]? = some l[i] := List.getElem?_eq_getElem hi
    generalize hx : l[i] = x at hx0
    have hxl : x ∈ l := hx ▸ List.getElem_mem hi
    have hn1 := hold.nx
    obtain ⟨b, o, c, B, gx, hv, hB, hbf, hgf, hbl, hE⟩ := (h.keep fun y hy => hold.get y (hlt y hy)).at hx0
    obtain ⟨v2, hrow, hs2⟩ := boxR_E.1 hE
    obtain ⟨a2, c2, hv2⟩ := hs2.val
    subst hv2
    rw [hv0] at hv
    cases hv
    have hbl' : o + i * 2 + 2 ≤ B.cells.length := hbl
    have hrow' : (B.cells.drop (o + i * 2)).take 2 = [.bool x.1, .slice a2 x.2.length c2] := hrow
    have hX1 : H.fz H1.next = false := hf.fresh hn1
    have hX2 : H.fz (H1.next + 1) = false := hf.fresh (by omega)
    simp only [go_sem, e11, e3, hi, hB, hbl', hrow', hX1, hX2]
    have hml := hl.mail x hxl
    generalize hHb : (H1.push ⟨[.bool x.1, .slice a2 x.2.length c2], 81, false, false⟩) = Hb
    have hnb : Hb.next = H1.next + 1 := by rw [← hHb]; rfl
    have hob : Old H1 Hb := by rw [← hHb]; exact Old.push H1 _
    refine w_for 8587837696 x.2.length (fun j V' H3 => V' 21 = .int .i64 (j : Nat) ∧ ∃ vm fm, H3.get (H1.next + 1) = some ⟨[.bool x.1, vm], 81, false, false⟩ ∧ Ow msgR 76 H3 vm (x.2.take j) fm ∧ Own (H1.next + 2) H3 fm ∧ Old Hb H3 ∧ H1.next + 2 ≤ H3.next)
      ⟨by simp only [go_sem]; rfl, .slice none 0 0, [], if_pos rfl, by simpa using Ow.nil msgR 76 _, ⟨by simp, by simp, by simp⟩, (Old.push Hb _).upd (by rw [hnb]; exact Nat.le_refl _) _, by show H1.next + 2 ≤ Hb.next + 1; omega⟩ ?_ ?_ (by rfl)
    · rintro j V' H3 hj ⟨e21, vm, fm, gm, howm, hownm, holdm, hnm⟩
      have hy0 : x.2[j]? = some x.2[j] := List.getElem?_eq_getElem hj
      generalize hy : x.2[j] = m at hy0
      have hmx : m ∈ x.2 := hy ▸ List.getElem_mem hj
      have hs3 := hs2.keep (H' := H3) fun y hy => by
        have := hlt y (hgf y hy)
        rw [holdm.get y (by omega), hob.get y (by omega)]
      obtain ⟨b3, o3, c3, B3, g3, hv3, hB3, hbf3, hgf3, hbl3, hE3⟩ := hs3.at hy0
      cases hv3
      obtain ⟨v4, hrow3, hs4⟩ := msgR_E.1 hE3
      have hbl3' : o3 + j * 3 + 3 ≤ B3.cells.length := hbl3
      have hrow3' : (B3.cells.drop (o3 + j * 3)).take 3 = [.int .i64 m.1, .int .i64 m.2.1, v4] := hrow3
      obtain ⟨a4, c4, hv4⟩ := hs4.val
      subst hv4
      have hX3 : H.fz H3.next = false := hf.fresh (by omega)
      have hne : ¬ H1.next + 1 = H3.next := by omega
      simp only [go_sem, e21, hj, hB3, hbl3', hrow3', hX3, hnb, hne, gm]
      have hE4 : msgR.E (H3.push ⟨[.int .i64 m.1, .int .i64 m.2.1, .slice a4 m.2.2.length c4], 76, false, false⟩) [.int .i64 m.1, .int .i64 m.2.1, .slice a4 m.2.2.length c4] m g3 := msgR_E.2 ⟨_, rfl, hs4.keep fun y hy => get_push_lt (by have := hlt y (hgf y (hgf3 y hy)); omega)⟩
      refine Cll.by (rmessage_w hE4 (fun y hy => by have := hlt y (hgf y (hgf3 y hy)); rw [next_push]; omega) (hl.args x hxl m hmx)) ?_
      rintro _ H5 - ⟨hold5, cs5, f5, rfl, hE5, ho5⟩
      have hn5 : H3.next + 1 ≤ H5.next := hold5.nx
      obtain ⟨v5, rfl, hs5⟩ := msgR_E.1 hE5
      obtain ⟨a5, c5, hv5⟩ := hs5.val
      subst hv5
      have gm5 : H5.get (H1.next + 1) = some ⟨[.bool x.1, vm], 81, false, false⟩ := by rw [hold5.get _ (by rw [next_push]; omega), get_push_lt (by omega)]; exact gm
      simp only [go_sem, gm5, gm, hne, build_one ap_79 (by decide) (by decide)]
      have h35 : Old H3 (H5.push ⟨[.int .i64 m.1, .int .i64 m.2.1, .slice a5 m.2.2.length c5], 76, false, false⟩) := (Old.push H3 _).trans (hold5.trans (Old.push _ _))
      have htl : (x.2.take j).length = j := by rw [List.length_take]; omega
      refine cps_app1 (r := msgR) (x := m) (g := f5) ap_79 (howm.keep fun y hy => h35.get y (hownm.hi y hy)) (fun y hy => Nat.lt_of_lt_of_le (hownm.hi y hy) h35.nx) (nodup_apart hownm.nd ho5.nd hownm.hi fun y hy => Nat.le_of_succ_le (ho5.lo y hy))
        (fun y hy => Nat.lt_succ_of_lt (ho5.hi y hy)) (fun y hy => hf.fresh (by have := hownm.lo y hy; omega)) (by rw [get_push, if_pos rfl]) (msgR_E.2 ⟨_, rfl, hs5.keep fun y hy => get_push_lt (ho5.hi y hy)⟩) rfl (by omega) ?_
      intro v7 H7 f7 how7 hnd7 hmem7 hhi7 hnx7 hkp7 hfz7 hro7
      have hnx7' : H7.next = H5.next + 2 := hnx7
      have hnf : H1.next + 1 ∉ fm := fun e => by have := hownm.lo _ e; omega
      have gm7 : H7.get (H1.next + 1) = some ⟨[.bool x.1, vm], 81, false, false⟩ := by rw [hkp7 _ (by rw [next_push]; omega) hnf, get_push_lt (by omega)]; exact gm5
      have hlo7 : ∀ y ∈ f7, H1.next + 2 ≤ y := fun y hy => by
        rcases hmem7 y hy with e | e | e
        · rw [next_push] at e; omega
        · exact hownm.lo y e
        · have h9 : H3.next + 1 ≤ y := ho5.lo y e; omega
      obtain ⟨a7, c7, hv7⟩ := how7.sl.val
      subst hv7
      have hb7 : Old Hb H7 := by
        have h9 := holdm.trans h35
        refine ⟨by omega, fun y hy => ?_, fun y B hB hr => h9.ro y B (hro7 y B hB hr) hr⟩
        rw [hkp7 y (by rw [next_push]; omega) (fun e => by have := hownm.lo y e; omega), h9.get y hy]
      simp only [go_sem, gm7, hX2, e21, wrap_succ hj (by omega)]
      refine ⟨_, f7, rfl, ?_, ⟨hnd7, hlo7, hhi7⟩, hb7.upd (by omega) _, by omega⟩
      rw [take_snoc hy0]
      exact how7.keep fun y hy => by
        have := hlo7 y hy
        rw [get_upd, if_neg (by omega)]
    · rintro V' H3 ⟨e21, vm, fm, gm, howm, hownm, holdm, hnm⟩
      rw [List.take_of_length_le (Nat.le_refl _)] at howm
      obtain ⟨am, cm, hvm⟩ := howm.sl.val
      subst hvm
      simp only [go_sem, e21, e11, e3, gm, build_one ap_54 (by decide) (by decide)]
      have h13 : Old H1 (H3.push ⟨[.bool x.1, .slice am x.2.length cm], 81, false, false⟩) := hob.trans (holdm.trans (Old.push _ _))
      have htl : (l.take i).length = i := by rw [List.length_take]; omega
      refine cps_app1 (r := boxO) (x := x) (g := fm) ap_54 (how.keep fun y hy => h13.get y (hown.hi y hy)) (fun y hy => Nat.lt_of_lt_of_le (hown.hi y hy) h13.nx) (nodup_apart hown.nd hownm.nd hown.hi fun y hy => by have := hownm.lo y hy; omega)
        (fun y hy => Nat.lt_succ_of_lt (hownm.hi y hy)) (fun y hy => hf.fresh (hown.lo y hy)) (by rw [get_push, if_pos rfl]) (boxO_E.2 ⟨_, rfl, howm.keep fun y hy => get_push_lt (hownm.hi y hy)⟩) rfl (by omega) ?_
      intro v7 H7 f7 how7 hnd7 hmem7 hhi7 hnx7 hkp7 hfz7 hro7
      have hnx7' : H7.next = H3.next + 2 := hnx7
      simp only [go_sem, e11, wrap_succ hi (by omega)]
      have h07 := hold.trans h13
      refine ⟨_, f7, rfl, by rw [take_snoc hx0]; exact how7, ⟨hnd7, fun y hy => ?_, hhi7⟩, ⟨by omega, fun y hy => ?_, fun y B hB hr => h07.ro y B (hro7 y B hB hr) hr⟩⟩
      · rcases hmem7 y hy with e | e | e
        · rw [next_push] at e; omega
        · exact hown.lo y e
        · have := hownm.lo y e; omega
      · rw [hkp7 y (by rw [next_push]; omega) (fun e => by have := hown.lo y e; omega), h07.get y hy]
  · rintro V H1 ⟨e11, out, g, e3, how, hown, hold⟩
    simp only [go_sem, e11, e3]
    rw [List.take_of_length_le (Nat.le_refl _)] at how
    exact ⟨hold, g, how, hown⟩
theorem rcopied_w {H : AHeap} {v : Value} {l : List (Bool × List Msg)} {f : List Nat} (h : Sl boxR H v l f) (hlt : ∀ y ∈ f, y < H.next) (hl : Small l) :
    FnW Try.prog 68 #[v] H (fun v' H' => Old H H' ∧ ∃ f', Ow boxO 81 H' v' l f' ∧ Own H.next H' f' ∧ ∀ y, H.next ≤ y → H'.fz y = false) := by
  intro hf
  exact FnW.tell ((rcopied_w0 h hlt hl).mono fun v' H' hkx ⟨hold, f', hs, ho⟩ => ⟨H.fz, fun b hb => hb, fun b hb => Nat.lt_of_lt_of_le (hf.fz b hb) hold.nx, ⟨⟨hold.nx, hold.get, hold.ro⟩, f', hs.keep (fun b hb => rfl), ⟨ho.nd, ho.lo, ho.hi⟩, fun y hy => hf.fresh hy⟩⟩) hf

theorem ropen_w {H : AHeap} {v : Value} {l : List (Bool × List Msg)} {f : List Nat} (h : Sl boxR H v l f) (hlt : ∀ y ∈ f, y < H.next) (hl : Small l) :
    FnW Try.prog 48 #[v] H (fun w H' => Old H H' ∧ ∃ v' f', w = .tuple #[v', .int .i64 (l.length : Nat)] ∧ Sl boxR H' v' (l ++ [(false, [])]) f' ∧ Own H.next H' f') := by
  refine fw_48 (Nat.le_refl _) fun hf => ?_
  simp only [Try.f48, Option.getD_some]
  obtain ⟨a0, c0, hv0⟩ := h.val
  have hll := hl.len
  simp only [go_sem]
  refine Cll.by (rcopied_w h hlt hl) ?_
  rintro v1 H1 - ⟨hold1, f1, how1, ho1, _⟩
  simp only [go_sem, build_one ap_54 (by decide) (by decide)]
  have h1 : Old H (H1.push ⟨[.bool false, .slice none 0 0], 81, false, false⟩) := hold1.trans (Old.push _ _)
  refine cps_snoc (Hb := H) (r := boxO) (x := (false, [])) (g := []) ap_54 (how1.keep fun y hy => get_push_lt (ho1.hi y hy)) h1 ⟨ho1.nd, ho1.lo, fun y hy => Nat.lt_succ_of_lt (ho1.hi y hy)⟩ ⟨by simp, by simp, by simp⟩ (by simp) (fun y hy => hf.fresh (ho1.lo y hy)) (by rw [get_push, if_pos rfl]) (boxO_E.2 ⟨_, rfl, Ow.nil _ _ _⟩) rfl (by omega) ?_
  intro v' H' f' how' ho' _ _ _ hold'
  simp only [go_sem, hv0]
  exact ⟨hold', _, f', rfl, how'.sl.map fun _ _ _ => boxO_R, ho'⟩

theorem rput_w {H : AHeap} {v : Value} {l : List (Bool × List Msg)} {f fm : List Nat} {n : Int} {cs : List Value} {m : Msg} (h : Sl boxR H v l f) (hlt : ∀ y ∈ f, y < H.next) (hl : Small l) (hm : msgR.E H cs m fm) (hmlt : ∀ y ∈ fm, y < H.next) (hma : m.2.2.length < 1000000) :
    FnW Try.prog 49 #[v, .int .i64 n, .agg cs.toArray] H (fun v' H' => Old H H' ∧ ∃ f', Sl boxR H' v' (putL l n m) f' ∧ Own H.next H' f') := by
  refine fw_49 (Nat.le_refl _) fun hf => ?_
  simp only [Try.f49, Option.getD_some]
  have hll := hl.len
  obtain ⟨vm, rfl, hsm⟩ := msgR_E.1 hm
  simp only [go_sem]
  refine Cll.by (rcopied_w (h.keep (H' := H.push ⟨[.int .i64 m.1, .int .i64 m.2.1, vm], 76, false, false⟩) fun y hy => get_push_lt (hlt y hy)) (fun y hy => Nat.lt_succ_of_lt (hlt y hy)) hl) ?_
  rintro v1 H1 - ⟨hold1, f1, how1, ho1, _⟩
  have hn1 : H.next + 1 ≤ H1.next := hold1.nx
  have g0 : H1.get H.next = some ⟨[.int .i64 m.1, .int .i64 m.2.1, vm], 76, false, false⟩ := by rw [hold1.get _ (Nat.lt_succ_self _), get_push, if_pos rfl]
  have hold01 : Old H H1 := (Old.push H _).trans hold1
  have hlo1 : ∀ y ∈ f1, H.next + 1 ≤ y := ho1.lo
  simp only [go_sem]
  obtain ⟨a0, c0, hv0⟩ := h.val
  by_cases ht : thereB n l.length = true
  · have ht' := ht
    simp only [thereB, Bool.and_eq_true, decide_eq_true_eq] at ht'
    obtain ⟨h0, h1⟩ := ht'
    have hn : n.toNat < l.length := by omega
    obtain ⟨b, cs, g1, g2, g3, hv, hB, rfl, hbl, hE, hput⟩ := how1.put hn
    obtain ⟨v2, hrow, hs2⟩ := boxO_E.1 hE
    have hcell : cs[n.toNat * 2 + 1]? = some v2 := by
      have : ((cs.drop (n.toNat * 2)).take 2)[1]? = some v2 := by rw [show (cs.drop (n.toNat * 2)).take 2 = _ from hrow]; rfl
      rw [List.getElem?_take, if_pos (by decide), List.getElem?_drop] at this
      exact this
    have hgd : l.getD n.toNat (false, []) = l[n.toNat] := by simp [List.getD_eq_getElem?_getD, hn]
    have hx := hl.mail _ (List.getElem_mem hn)
    have hbl' : n.toNat * 2 + 2 ≤ cs.length := hbl
    have hm1 : msgR.E H1 [.int .i64 m.1, .int .i64 m.2.1, vm] m fm := msgR_E.2 ⟨vm, rfl, hsm.keep fun y hy => hold01.get y (hmlt y hy)⟩
    simp only [go_sem, hv0, h1, hv, h0, hn, hB, hcell, g0]
    refine Cll.by (rmessage_w hm1 (fun y hy => Nat.lt_of_lt_of_le (hmlt y hy) hold01.nx) hma) ?_
    rintro _ H2 - ⟨hold2, cs2, f2, rfl, hE2, ho2⟩
    obtain ⟨vm2, rfl, hsm2⟩ := msgR_E.1 hE2
    obtain ⟨a2, c2, hv2⟩ := hsm2.val
    subst hv2
    have hbH1 : b < H1.next := ho1.hi b (by simp)
    have hB2 : H2.get b = some ⟨cs, 81, true, false⟩ := by rw [hold2.get b hbH1]; exact hB
    have g02 : H2.get H.next = H1.get H.next := hold2.get _ (by omega)
    simp only [go_sem, g02, hB2, hB, hcell, build_one ap_79 (by decide) (by decide)]
    have hn2 := hold2.nx
    have h12 : Old H (H2.push ⟨[.int .i64 m.1, .int .i64 m.2.1, .slice a2 m.2.2.length c2], 76, false, false⟩) := hold01.trans (hold2.trans (Old.push _ _))
    have hg2 : ∀ y ∈ g2, y < H1.next := fun y hy => ho1.hi y (by simp [hy])
    have hg2l : ∀ y ∈ g2, H.next ≤ y := fun y hy => Nat.le_of_succ_le (hlo1 y (by simp [hy]))
    have hnd := ho1.nd
    have hbn : b ∉ g1 ++ (g2 ++ g3) := (List.nodup_cons.1 hnd).1
    have hnd2 := (List.nodup_cons.1 hnd).2
    have hg2nd : g2.Nodup := (List.nodup_append.1 (List.nodup_append.1 hnd2).2.1).1
    refine cps_snoc (Hb := H) (r := msgR) (x := m) (g := f2) ap_79 (hs2.keep fun y hy => by rw [get_push_lt (by have := hg2 y hy; omega), hold2.get y (hg2 y hy)]) h12 ⟨hg2nd, hg2l, fun y hy => by have := hg2 y hy; rw [next_push]; omega⟩ ⟨ho2.nd, fun y hy => by have := ho2.lo y hy; omega, fun y hy => Nat.lt_succ_of_lt (ho2.hi y hy)⟩ (fun y hy hy2 => by have := hg2 y hy; have := ho2.lo y hy2; omega) (fun y hy => hf.fresh (hg2l y hy)) (by rw [get_push, if_pos rfl]) (msgR_E.2 ⟨_, rfl, hsm2.keep fun y hy => get_push_lt (ho2.hi y hy)⟩) rfl (by omega) ?_
    intro v3 H3 f3 how3 ho3 hmem3 hnx3 hkp3 hold3
    have hnx3' : H3.next = H2.next + 2 := hnx3
    have hbg2 : b ∉ g2 := fun e => hbn (by simp [e])
    have hB3 : H3.get b = some ⟨cs, 81, true, false⟩ := by rw [hkp3 b (by rw [next_push]; omega) hbg2, get_push_lt (by omega)]; exact hB2
    obtain ⟨a3, c3, hv3⟩ := how3.sl.val
    subst hv3
    have hXb : H.fz b = false := hf.fresh (Nat.le_of_succ_le (hlo1 b (by simp)))
    have hlt2 : n.toNat * 2 + 1 < cs.length := by omega
    have hlt3 : n.toNat * 2 + 1 + 1 ≤ cs.length := by omega
    simp only [go_sem, h0, hn, hB3, hXb, hlt2, hlt3]
    have hput' : putL l n m = l.set n.toNat (l[n.toNat].1, l[n.toNat].2 ++ [m]) := by rw [putL, if_pos ht, hgd]
    rw [hput', ← hv]
    have hb1 : H.next ≤ b := Nat.le_of_succ_le (hlo1 b (by simp))
    have hkeep : ∀ z, z ∈ g1 ∨ z ∈ g3 → H3.get z = H1.get z := fun z hz => by
      have hz1 : z < H1.next := ho1.hi z (by rcases hz with h | h <;> simp [h])
      have hz2 : z ∉ g2 := fun e => by
        have h2 := List.nodup_append.1 hnd2
        rcases hz with h | h
        · exact h2.2.2 z h z (by simp [e]) rfl
        · exact (List.nodup_append.1 h2.2.1).2.2 z e z h rfl
      rw [hkp3 z (by rw [next_push]; omega) hz2, get_push_lt (by omega), hold2.get z hz1]
    have hzb : ∀ z, z ∈ g1 ∨ z ∈ g3 → z ≠ b := fun z hz e => hbn (by rcases hz with h | h <;> simp [← e, h])
    have hf3b : b ∉ f3 := fun e => by
      rcases hmem3 b e with h | h | h
      · rw [next_push] at h; omega
      · exact hbg2 h
      · have := ho2.lo b h; omega
    have hsp : cs.set (n.toNat * 2 + 1) (.slice a3 (l[n.toNat].2 ++ [m]).length c3) = spliceA cs (n.toNat * boxO.sz) [.bool l[n.toNat].1, .slice a3 (l[n.toNat].2 ++ [m]).length c3] := by
      have := splice_sub (vs := [.slice a3 (l[n.toNat].2 ++ [m]).length c3]) hrow (k := 1) (Nat.le_refl 2) hbl
      rw [show n.toNat * boxO.sz + 1 = n.toNat * 2 + 1 from rfl, splice_one hlt2] at this
      rw [this]; rfl
    refine ⟨hold3.upd hb1 _, b :: (g1 ++ (f3 ++ g3)), (hput (H3.upd b ⟨cs.set (n.toNat * 2 + 1) (.slice a3 (l[n.toNat].2 ++ [m]).length c3), 81, true, false⟩) [.bool l[n.toNat].1, .slice a3 (l[n.toNat].2 ++ [m]).length c3] (l[n.toNat].1, l[n.toNat].2 ++ [m]) f3 (fun z hz => ?_) ?_ ?_).sl.map fun _ _ _ => boxO_R, ?_⟩
    · rw [get_upd, if_neg (hzb z hz)]; exact hkeep z hz
    · rw [get_upd, if_pos rfl, hsp]
    · refine boxO_E.2 ⟨_, rfl, how3.keep fun y hy => ?_⟩
      rw [get_upd, if_neg (fun e => hf3b (by rw [← e]; exact hy))]
    · have hob : Own H.next H1 ((b :: g1) ++ (g2 ++ g3)) := ⟨hnd, fun y hy => Nat.le_of_succ_le (hlo1 y hy), ho1.hi⟩
      have := hob.swap ho3 (fun y hy => by
        rcases hmem3 y hy with h | h | h
        · rw [next_push] at h; left; omega
        · exact .inr h
        · have := ho2.lo y h; left; omega) (by omega)
      exact ⟨this.nd, this.lo, this.hi⟩
  · have hw : (0 ≤ n ∧ n < (l.length : Nat)) → False := fun hh => ht (by simp [thereB, hh.1, hh.2])
    by_cases h0 : 0 ≤ n
    · have h1 : ¬ n < (l.length : Nat) := fun h1 => hw ⟨h0, h1⟩
      simp only [go_sem, hv0, h0, h1]
      simp only [putL, ht]
      exact ⟨hold01, f1, how1.sl.map fun _ _ _ => boxO_R, ⟨ho1.nd, fun y hy => Nat.le_of_succ_le (hlo1 y hy), ho1.hi⟩⟩
    simp only [go_sem, h0]
    simp only [putL, ht]
    exact ⟨hold01, f1, how1.sl.map fun _ _ _ => boxO_R, ⟨ho1.nd, fun y hy => Nat.le_of_succ_le (hlo1 y hy), ho1.hi⟩⟩

theorem rfree_w {H : AHeap} {v : Value} {l : List (Bool × List Msg)} {f : List Nat} {n : Int} (h : Sl boxR H v l f) (hlt : ∀ y ∈ f, y < H.next) (hl : Small l) :
    FnW Try.prog 50 #[v, .int .i64 n] H (fun v' H' => Old H H' ∧ ∃ f', Sl boxR H' v' (freeL l n) f' ∧ Own H.next H' f') := by
  refine fw_50 (Nat.le_refl _) fun hf => ?_
  simp only [Try.f50, Option.getD_some]
  simp only [go_sem]
  refine Cll.by (rcopied_w h hlt hl) ?_
  rintro v1 H1 - ⟨hold1, f1, how1, ho1, _⟩
  simp only [go_sem]
  obtain ⟨a0, c0, hv0⟩ := h.val
  by_cases ht : thereB n l.length = true
  · have ht' := ht
    simp only [thereB, Bool.and_eq_true, decide_eq_true_eq] at ht'
    obtain ⟨h0, h1⟩ := ht'
    have hn : n.toNat < l.length := by omega
    obtain ⟨b, cs, g1, g2, g3, hv, hB, rfl, hbl, hE, hput⟩ := how1.put hn
    have hbl' : n.toNat * 2 + 2 ≤ cs.length := hbl
    have hXb : H.fz b = false := hf.fresh (ho1.lo b (by simp))
    simp only [go_sem, hv0, h1, hv, h0, hn, hB, hXb, hbl']
    have hnd := List.nodup_cons.1 ho1.nd
    rw [freeL, if_pos ht, ← hv]
    have hob : Own H.next H1 ((b :: g1) ++ (g2 ++ g3)) := ⟨ho1.nd, ho1.lo, ho1.hi⟩
    have hsw := hob.swap (g := []) (H3 := H1) ⟨by simp, by simp, by simp⟩ (by simp) (Nat.le_refl _)
    refine ⟨hold1.upd (ho1.lo b (by simp)) _, b :: (g1 ++ ([] ++ g3)), (hput (H1.upd b ⟨spliceA cs (n.toNat * 2) [.bool true, .slice none 0 0], 81, true, false⟩) [.bool true, .slice none 0 0] (true, []) [] (fun z hz => ?_) (if_pos rfl) (boxO_E.2 ⟨_, rfl, Ow.nil _ _ _⟩)).sl.map fun _ _ _ => boxO_R, ⟨hsw.nd, hsw.lo, hsw.hi⟩⟩
    rw [get_upd, if_neg (fun e => hnd.1 (by rcases hz with h | h <;> simp [← e, h]))]
  · have hw : (0 ≤ n ∧ n < (l.length : Nat)) → False := fun hh => ht (by simp [thereB, hh.1, hh.2])
    by_cases h0 : 0 ≤ n
    · have h1 : ¬ n < (l.length : Nat) := fun h1 => hw ⟨h0, h1⟩
      simp only [go_sem, hv0, h0, h1]
      simp only [freeL, ht]
      exact ⟨hold1, f1, how1.sl.map fun _ _ _ => boxO_R, ho1⟩
    simp only [go_sem, h0]
    simp only [freeL, ht]
    exact ⟨hold1, f1, how1.sl.map fun _ _ _ => boxO_R, ho1⟩

theorem rcount_w {H : AHeap} {v : Value} {l : List (Bool × List Msg)} {f : List Nat} (h : Sl boxR H v l f) (hlt : ∀ y ∈ f, y < H.next) (hl : Small l) :
    FnW Try.prog 52 #[v] H (fun w H' => Old H H' ∧ w = .int .i64 (countL l : Nat)) := by
  refine fw_52 (Nat.le_refl _) fun hf => ?_
  simp only [Try.f52, Option.getD_some]
  obtain ⟨a0, c0, hv0⟩ := h.val
  have hll := hl.len
  simp only [go_sem, hv0]
  refine w_for 261928 l.length (fun i V H1 => V 8 = .int .i64 (i : Nat) ∧ V 3 = .int .i64 (countL (l.take i) : Nat) ∧ Old H H1) ⟨by simp only [go_sem]; rfl, by simp only [go_sem]; rfl, Old.refl H⟩ ?_ ?_ (by rfl)
  · rintro i V H1 hi ⟨e8, e3, hold⟩
    have hx0 : l[i]? = some l[i] := List.getElem?_eq_getElem hi
    generalize hx : l[i] = x at hx0
    have hxl : x ∈ l := hx ▸ List.getElem_mem hi
    obtain ⟨b, o, c, B, gx, hv, hB, hbf, hgf, hbl, hE⟩ := (h.keep fun y hy => hold.get y (hlt y hy)).at hx0
    obtain ⟨v2, hrow, hs2⟩ := boxR_E.1 hE
    obtain ⟨a2, c2, hv2⟩ := hs2.val
    subst hv2
    rw [hv0] at hv
    cases hv
    have hbl' : o + i * 2 + 2 ≤ B.cells.length := hbl
    have hrow' : (B.cells.drop (o + i * 2)).take 2 = [.bool x.1, .slice a2 x.2.length c2] := hrow
    have hX1 : H.fz H1.next = false := hf.fresh hold.nx
    have hs1 : countL (l.take i) ≤ (l.take i).length * 1000000 := countL_le fun y hy => hl.mail y (List.mem_of_mem_take hy)
    rw [List.length_take, Nat.min_eq_left (by omega)] at hs1
    have hs2 := hl.mail x hxl
    have hw2 : IntKind.wrap .i64 (((countL (l.take i) : Nat) : Int) + ((x.2.length : Nat) : Int)) = ((countL (l.take i) + x.2.length : Nat) : Int) := wrap_add (by omega)
    simp only [go_sem, e8, e3, hi, hB, hbl', hrow', hX1, hw2, wrap_succ hi (by omega)]
    refine ⟨?_, hold.trans (Old.push _ _)⟩
    rw [take_snoc hx0]
    simp [countL]
  · rintro V H1 ⟨e8, e3, hold⟩
    simp only [go_sem, e8, e3]
    rw [List.take_of_length_le (Nat.le_refl _)]
    exact ⟨hold, rfl⟩

end Go.Proofs.Ytgjpcliaggpcaaa.Ab
