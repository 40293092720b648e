/- A region, drawn or not, comes to what its operations come to in the text's own order. -/
import Derived.Test.YtgjpcliaggpcaaaAbB
set_option linter.unusedVariables false
set_option linter.unusedSimpArgs false
namespace Go.Proofs.Ytgjpcliaggpcaaa.Ab
open Go Classical

section
variable {P : Program} {ops : Array Oper} {T : Tra P ops}

def lst (listed : Array Bool) : Nat → Prop := fun i => listed.getD i false = true

theorem lst_also {listed : Array Bool} {k : Nat} (hk : k < listed.size) : lst (listed.setIfInBounds k true) = also (lst listed) k := by
  funext i
  unfold lst also
  by_cases h : k = i
  · subst h; simp [Array.getD, hk]
  · rw [getD_set_ne false h]
    simp only [eq_iff_iff]
    exact ⟨.inl, fun hx => hx.resolve_right (fun e => h e.symm)⟩

theorem tv_none {L : Nat → Prop} (h : ∀ i, ¬ L i) : ∀ m d, tv T L m d = (T.t 0).tmps.getD d undef
  | 0, _ => rfl
  | m + 1, d => by rw [tv, if_neg (fun hx => h m hx.1)]; exact tv_none h m d
theorem hv_none {L : Nat → Prop} (h : ∀ i, ¬ L i) : ∀ m b, hv T L m b = (T.H 0).get b
  | 0, _ => rfl
  | m + 1, b => by rw [hv, if_neg (fun hx => h m hx.1)]; exact hv_none h m b
theorem tv_all {L : Nat → Prop} (h : ∀ i, i < ops.size → L i) : ∀ m d, m ≤ ops.size → tv T L m d = (T.t m).tmps.getD d undef
  | 0, _, _ => rfl
  | m + 1, d, hm => by
    rw [tv, T.t_succ (by omega), tv_all h m d (by omega)]
    have := h m (by omega)
    simp [this]
theorem hv_all {L : Nat → Prop} (h : ∀ i, i < ops.size → L i) : ∀ m b, m ≤ ops.size → hv T L m b = (T.H m).get b
  | 0, _, _ => rfl
  | m + 1, b, hm => by
    rw [hv, hv_all h m b (by omega)]
    have := h m (by omega)
    by_cases hc : (T.H (m + 1)).get b = (T.H m).get b
    · simp [hc]
    · simp [this, hc]

theorem count_set {l : List Bool} {i : Nat} (h : l[i]? = some false) : (l.set i true).count false + 1 = l.count false := by
  induction l generalizing i with
  | nil => simp at h
  | cons x l ih =>
    cases i with
    | zero => simp at h; subst h; simp
    | succ i =>
      simp only [List.getElem?_cons_succ] at h
      have := ih h
      simp only [List.set_cons_succ, List.count_cons]
      omega

theorem all_listed {listed : Array Bool} (ok : RegionOk ops) (hsz : listed.size = ops.size) (h : Region.ready .any ops listed = []) : ∀ i, i < ops.size → lst listed i := by
  intro i
  induction i using Nat.strongRecOn with
  | _ i ih =>
    intro hi
    by_cases hl : lst listed i
    · exact hl
    · exfalso
      have ho : ops[i]? = some ops[i] := Array.getElem?_eq_getElem hi
      have : i ∈ Region.ready .any ops listed := by
        rw [mem_ready]
        refine ⟨?_, ops[i], ho, fun e he hb => ?_⟩
        · have hlt : i < listed.size := by omega
          simp only [lst, Array.getD, hlt, dif_pos] at hl
          simp only [Array.getD, hlt, dif_pos]
          cases hx : listed.getInternal i hlt
          · rfl
          · exact absurd hx hl
        · have hmem : e.on ∈ edgesOf ops i := by
            simp only [edgesOf, ho]
            exact List.mem_map.2 ⟨e, List.mem_filter.2 ⟨Array.mem_toList_iff.2 he, hb⟩, rfl⟩
          have hlt := ok.lt i e.on hi hmem
          exact ih e.on hlt (by omega)
      rw [h] at this; cases this

theorem wanted_VR {σ : Sig} {t a : Act} {o : Oper} (hsz : t.tmps.size = a.tmps.size)
    (h : ∀ d, d ∈ o.looksAt ops → VR σ (t.tmps.getD d undef) (a.tmps.getD d undef)) :
    Region.wanted o (yielded ops t.tmps) = Region.wanted o (yielded ops a.tmps) := by
  unfold Region.wanted
  cases hg : o.guard with
  | none => rfl
  | some gw =>
    obtain ⟨g, want⟩ := gw
    have : yielded ops t.tmps g = yielded ops a.tmps g := yielded_VR hsz fun d hd => h d (by
      unfold Oper.looksAt
      rw [hg]
      exact List.mem_append_right _ (by simp [hd]))
    simp only [this]

theorem region_any (ok : RegionOk ops) (fr : FreeAll T) {σ₀ : Sig} {w₀ : World} {Q : Exit → Act → World → Prop}
    (hQ : ∀ σ a w, Inv T σ₀ w₀ (fun i => i < ops.size) σ a w → Q .normal a w) :
    ∀ (fuel : Nat) (listed : Array Bool) (σ : Sig) (a : Act) (w : World), listed.size = ops.size → listed.toList.count false ≤ fuel →
      Inv T σ₀ w₀ (lst listed) σ a w → wpAny P .any ops Q fuel listed a w := by
  have fin : ∀ (listed : Array Bool) (σ : Sig) (a : Act) (w : World), (∀ i, i < ops.size → lst listed i) → Inv T σ₀ w₀ (lst listed) σ a w → Q .normal a w := by
    intro listed σ a w hall hI
    have : lst listed = fun i => i < ops.size := funext fun i => propext ⟨fun h => hI.down.lt i h, fun h => hall i h⟩
    rw [this] at hI
    exact hQ σ a w hI
  intro fuel
  induction fuel with
  | zero =>
    intro listed σ a w hsz hc hI
    have hall : ∀ i, i < ops.size → lst listed i := by
      intro i hi
      have hlt : i < listed.size := by omega
      have hc0 : listed.toList.count false = 0 := by omega
      rw [List.count_eq_zero] at hc0
      unfold lst
      simp only [Array.getD, hlt, dif_pos]
      cases hx : listed.getInternal i hlt
      · exact absurd (by rw [← hx]; exact Array.mem_toList_iff.2 (Array.getElem_mem hlt)) hc0
      · rfl
    refine ⟨?_, fin listed σ a w hall hI⟩
    rw [List.eq_nil_iff_forall_not_mem]
    intro i hi
    obtain ⟨h0, o, ho, _⟩ := mem_ready.1 hi
    have hi' : i < ops.size := (Array.getElem?_eq_some_iff.1 ho).1
    have h1 := hall i hi'
    have hlt : i < listed.size := by omega
    unfold lst at h1
    simp only [Array.getD, hlt, dif_pos] at h0 h1
    rw [h0] at h1; cases h1
  | succ fuel ih =>
    intro listed σ a w hsz hc hI
    refine ⟨fun hr => fin listed σ a w (all_listed ok hsz hr) hI, fun k hk => ?_⟩
    obtain ⟨h0, o, ho, hall⟩ := mem_ready.1 hk
    have hks : k < ops.size := (Array.getElem?_eq_some_iff.1 ho).1
    have hlt : k < listed.size := by omega
    have hnk : ¬ lst listed k := by
      unfold lst
      simp only [Array.getD, hlt, dif_pos] at h0 ⊢
      rw [h0]; simp
    have he : ∀ e ∈ edgesOf ops k, lst listed e := by
      intro e he
      simp only [edgesOf, ho, List.mem_map, List.mem_filter] at he
      obtain ⟨e', ⟨h1, h2⟩, rfl⟩ := he
      exact hall e' (Array.mem_toList_iff.1 h1) h2
    have hcount : (listed.setIfInBounds k true).toList.count false ≤ fuel := by
      have hx : listed.toList[k]? = some false := by
        simp only [Array.getD, hlt, dif_pos] at h0
        rw [Array.getElem?_toList, Array.getElem?_eq_getElem hlt]
        exact congrArg some h0
      have := count_set hx
      rw [Array.toList_setIfInBounds]
      omega
    have hlook : ∀ d, d ∈ o.looksAt ops → VR σ ((T.t k).tmps.getD d undef) (a.tmps.getD d undef) := fun d hd => by
      rw [← tv_at hI.down ok ho hnk he (.inl hd) (Nat.le_of_lt hks) (Nat.le_refl _)]
      exact hI.tm d
    have hszk : (T.t k).tmps.size = a.tmps.size := by rw [T.size k (Nat.le_of_lt hks), hI.size]
    have hwant := wanted_VR (o := o) hszk hlook
    have cont : ∀ σ' v' w', Post P (T.F k) σ (T.H k) w σ' (T.H (k + 1)) w' → VR σ' (T.v k) v' → wpAny P .any ops Q fuel (listed.setIfInBounds k true) (a.put o.dst v') w' := by
      intro σ' v' w' hp hv
      refine ih _ σ' _ w' (by simp [hsz]) hcount ?_
      rw [lst_also hlt]
      exact hI.next ok fr ho hnk he hp hv
    have hvk : ∀ b l, T.F k b → σ b = some l → ((T.H k).get b).isSome = true → hv T (lst listed) ops.size b = (T.H k).get b := fun b l hF hs hi => by
      refine hv_at hI.down fr hI.fr hks hnk he hF ?_ hs (Nat.le_of_lt hks) (Nat.le_refl _)
      rcases Nat.lt_or_ge b (T.H k).next with h' | h'
      · exact h'
      · rw [T.wfs k (Nat.le_of_lt hks) b h'] at hi; cases hi
    have hrel : Rel P σ (T.F k) (T.H k).get w := (hI.rel.sub fun _ _ => trivial).cong fun b hF l hs hi => (hvk b l hF hs hi).symm
    have hops : ∀ x ∈ o.op.operands, VR σ ((T.t k).eval x) (a.eval x) := fun x hx => by
      have hok := Array.all_eq_true_iff_forall_mem.1 (T.opn k o ho) x hx
      exact eval_VR hok fun d hd => hlook d (by
        subst hd
        exact List.mem_append_left _ (List.mem_filterMap.2 ⟨.tmp d, by simpa using hx, rfl⟩))
    unfold wpOp
    rw [ho]
    simp only []
    rw [← hwant]
    cases hob : T.obs k with
    | none =>
      have hst := T.step k o ho hob
      unfold OpAt at hst
      by_cases hw : Region.wanted o (yielded ops (T.t k).tmps) = true
      · rw [if_pos hw] at hst ⊢
        exact .inl (hst σ w a _ Q hrel (hI.fr k hks hnk) hops cont)
      · rw [if_neg hw] at hst ⊢
        refine cont σ undef w ?_ (hst.1 ▸ VR.undef σ)
        rw [hst.2]
        exact Post.refl hrel rfl
    | some bp =>
      obtain ⟨b, π⟩ := bp
      obtain ⟨hH, hF, hq, hu⟩ := T.obsq k o ho b π hob
      have hpi := hv_obs hI.down fr hks hnk he hob (Nat.le_of_lt hks) (Nat.le_refl _)
      by_cases hw : Region.wanted o (yielded ops (T.t k).tmps) = true
      · rw [if_pos hw]
        refine .inl (hq hw ⟨(T.H ops.size).next, hv T (lst listed) ops.size, fun _ => false⟩ hpi σ w a _ Q hI.rel hops fun v' hv' => cont σ v' w ?_ hv')
        rw [hH]
        exact Post.refl ⟨fun b l B hFb => absurd hFb (hF b), fun b b' l l' hFb => absurd hFb (hF b), fun b b' l l' hFb => absurd hFb (hF b), hrel.old⟩ rfl
      · rw [if_neg hw]
        refine cont σ undef w ?_ (hu hw ▸ VR.undef σ)
        rw [hH]
        exact Post.refl hrel rfl

/-- A region as a whole. -/
def RegT (P : Program) (t : Act) (H : AHeap) (t' : Act) (H' : AHeap) (run : (Exit → Act → World → Prop) → Act → World → Prop) : Prop :=
  ∀ (σ : Sig) (w : World) (a : Act) (Q : Exit → Act → World → Prop), Rel P σ All H.get w → Fresh σ H H' → TR σ t a →
    (∀ σ' a' w', Post P All σ H w σ' H' w' → TR σ' t' a' → Q .normal a' w') → run Q a w

theorem region_drawn (T : Tra P ops) (hm : P.follows .mixedOrders = true) (ok : RegionOk ops) (fr : FreeAll T) (id : Nat) :
    RegT P (T.t 0) (T.H 0) (T.t ops.size) (T.H ops.size) fun Q a w => (Code.region id ops true).wp P Q a w := by
  intro σ w a Q hr hf ht hq
  have hnext := fun k (hk : k ≤ ops.size) => T.next_le (Nat.zero_le k) hk
  refine wp_region_any hm (region_any (T := T) ok fr (σ₀ := σ) (w₀ := { w with drawn := w.drawn + 1 }) ?_ ops.size _ σ a _ (by simp) ?_ ?_)
  · intro σ' a' w' hI
    have h1 : ∀ b, hv T (fun i => i < ops.size) ops.size b = (T.H ops.size).get b := fun b => hv_all (fun i hi => hi) _ b (Nat.le_refl _)
    refine hq σ' a' w' ⟨(hI.rel.sub fun _ _ => trivial).cong fun b _ l _ _ => (h1 b).symm,
      hI.ext, hI.wsz, fun k hk hn => hI.keep k hk hn, fun k hk ⟨b, l, _, hs, hi, he⟩ => hI.img k hk ⟨b, l, trivial, hs, by rw [h1]; exact hi, he⟩, hI.fro, hI.rest⟩ ⟨⟨?_, fun d _ => ?_⟩, ?_, hI.dfr⟩
    · rw [T.size _ (Nat.le_refl _), hI.size]
    · rw [← tv_all (T := T) (L := fun i => i < ops.size) (fun i hi => hi) _ d (Nat.le_refl _)]; exact hI.tm d
    · rw [T.def' _ (Nat.le_refl _)]; exact ht.dt
  · rw [Array.toList_replicate, List.count_replicate_self]; exact Nat.le_refl _
  · have hno : ∀ i, ¬ lst (Array.replicate ops.size false) i := fun i h => by
      unfold lst at h
      by_cases hi : i < ops.size <;> simp [Array.getD, hi] at h
    have h1 : ∀ b, hv T (lst (Array.replicate ops.size false)) ops.size b = (T.H 0).get b := fun b => hv_none hno _ b
    refine ⟨⟨fun i h => absurd h (hno i), fun k e h => absurd h (hno k)⟩, ht.tm.1.symm, fun d => ?_, ht.da, fun i hi _ b hb => hf b ⟨Nat.le_trans (hnext i (by omega)) hb.1, Nat.lt_of_lt_of_le hb.2 (T.next_le (by omega) (Nat.le_refl _))⟩, ⟨?_, ?_, ?_, hr.old⟩, fun _ _ => rfl, Nat.le_refl _, fun _ _ _ => rfl, ?_, fun b l hb hs => (by rw [hf b hb] at hs; cases hs), ⟨rfl, rfl, rfl⟩⟩
    · rw [tv_none hno]; exact ht.tm.at d
    · intro b l B _ hs hg
      rw [h1] at hg
      exact (hr.blk b l B trivial hs hg).move (fun _ _ h => h) rfl
    · intro b b' l l' _ _ hs hs' hi hi'
      rw [h1] at hi hi'
      exact hr.inj b b' l l' trivial trivial hs hs' hi hi'
    · intro b b' l l' _ hs hs' hi
      rw [h1] at hi
      exact hr.sep b b' l l' trivial hs hs' hi
    · rintro k hk ⟨b, l, _, hs, hi, he⟩
      rw [h1] at hi
      exact ⟨b, l, trivial, hs, hi, he⟩

end
end Go.Proofs.Ytgjpcliaggpcaaa.Ab
