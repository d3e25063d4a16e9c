/- What the law ChainRuns needs of the text Ab29. -/
import Derived.Test.YtbbfdebfhgdciaaGreatPAb27
import Derived.Test.YtbbfdebfhgdciaaGreatPAb28
set_option linter.unusedVariables false
set_option linter.unusedSimpArgs false
namespace Go.Zt
section
variable {P:Program}{M:Mem}{d:Nat}{t:TypeId}{cs:List Value}
theorem zex (hu:P.underlying t=some .bool)(h:yy P M (d+1) t cs):∃ b,cs=[.bool b]:=by
 unfold yy at h;rw [hu] at h;exact h
theorem zhh {k:IntKind}(hu:P.underlying t=some (.int k))(h:yy P M (d+1) t cs):∃ n,cs=[.int k n]∧(Lit.int k n).wf=true:=by
 unfold yy at h;rw [hu] at h;exact h
theorem zip {fs:Array Field}(hu:P.underlying t=some (.struct fs))(h:yy P M (d+1) t cs):cs.length=P.cellsOf t∧∀ f ∈ fs.toList,yy P M d f.type ((cs.drop f.offset).take (P.cellsOf f.type)):=by
 unfold yy at h;rw [hu] at h;exact h
theorem zlc {n:Nat}{e:TypeId}(hu:P.underlying t=some (.array n e))(h:yy P M (d+1) t cs):cs.length=P.cellsOf t∧∀ i,i < n→yy P M d e ((cs.drop (i*P.cellsOf e)).take (P.cellsOf e)):=by
 unfold yy at h;rw [hu] at h;exact h
theorem z5d {e:TypeId}{z b:Nat}(hu:P.underlying t=some (.slice e))(hz:P.cellsOf e=z)(hb:P.bytesOf e=b)(h:yy P M (d+1) t cs) :
  ∃ A n c vs,cs=[.slice A n c]∧n≤c∧n*b≤140737488351232∧Rd M A n z vs∧∀ i,i < n→yy P M d e ((vs.drop (i*z)).take z):=by
 unfold yy at h;rw [hu] at h
 subst hz;subst hb
 rcases h with rfl | ⟨b,n,c,l,rfl,h1,h2,h3,h4,h5⟩
 ·exact ⟨none,0,0,[],rfl,Nat.le_refl _,by simp,Rd.zero,fun i hi=>by omega⟩
 ·refine ⟨_,n,c,l,rfl,h1,h2,⟨h4,?_⟩,h5⟩
  unfold Mem.src
  simp only
  split
  ·rename_i h0
   rw [h0,Nat.zero_mul] at h4
   rw [List.eq_nil_of_length_eq_zero h4]
  ·unfold Mem.lds
   simp only [h3]
   rw [if_pos ⟨trivial,by omega⟩,List.drop_zero,← h4,List.take_length]
theorem zey {vs:List Value}{n:Nat}(hl:vs.length=n*1){i:Nat}(hi:i < n):(vs.drop (i*1)).take 1=[vs[i]'(by omega)]:=by
 rw [Nat.mul_one]
 apply List.ext_getElem
 ·simp;omega
 ·intro j h1 h2
  simp at h2
  subst h2
  simp
theorem zez {e:TypeId}{k:IntKind}{b:Nat}(hu:P.underlying t=some (.slice e))(he:P.underlying e=some (.int k))(hz:P.cellsOf e=1)(hb:P.bytesOf e=b)(h:yy P M (d+2) t cs) :
  ∃ A c xs,cs=[.slice A xs.length c]∧xs.length≤c∧xs.length*b≤140737488351232∧RdI M k A xs∧∀ x ∈ xs,(Lit.int k x).wf=true:=by
 obtain ⟨A,n,c,vs,rfl,h1,h2,h3,h4⟩:=z5d hu hz hb h
 have hl:=h3.1
 have key:∀ i (hi:i < n),∃ x,vs[i]'(by omega)=.int k x∧(Lit.int k x).wf=true:=fun i hi=>by
  have:=h4 i hi
  rw [zey hl hi] at this
  obtain ⟨x,h5,h6⟩:=zhh he this
  exact ⟨x,by simpa using h5,h6⟩
 let f:Value→Int:=fun v=>match v with | .int _ x=>x | _=>0
 have e1:vs=(vs.map f).map (Value.int k):=by
  apply List.ext_getElem (by simp)
  intro i h5 h6
  obtain ⟨x,h7,_⟩:=key i (by omega)
  simp [f,h7]
 have hn:n=(vs.map f).length:=by simp;omega
 refine ⟨A,c,vs.map f,by rw [← hn],by rw [← hn];exact h1,by rw [← hn];exact h2,?_,fun x hx=>?_⟩
 ·unfold RdI
  rw [← e1,← hn];exact h3
 ·obtain ⟨v,hv,rfl⟩:=List.mem_map.1 hx
  obtain ⟨i,hi,rfl⟩:=List.mem_iff_getElem.1 hv
  obtain ⟨x,h7,h8⟩:=key i (by omega)
  simp only [f,h7];exact h8
theorem zld {e:TypeId}{b:Nat}(hu:P.underlying t=some (.slice e))(he:P.underlying e=some .bool)(hz:P.cellsOf e=1)(hb:P.bytesOf e=b)(h:yy P M (d+2) t cs) :
  ∃ A c xs,cs=[.slice A xs.length c]∧xs.length≤c∧xs.length*b≤140737488351232∧RdB M A xs:=by
 obtain ⟨A,n,c,vs,rfl,h1,h2,h3,h4⟩:=z5d hu hz hb h
 have hl:=h3.1
 have key:∀ i (hi:i < n),∃ x,vs[i]'(by omega)=.bool x:=fun i hi=>by
  have:=h4 i hi
  rw [zey hl hi] at this
  obtain ⟨x,h5⟩:=zex he this
  exact ⟨x,by simpa using h5⟩
 let f:Value→Bool:=fun v=>match v with | .bool x=>x | _=>false
 have e1:vs=(vs.map f).map Value.bool:=by
  apply List.ext_getElem (by simp)
  intro i h5 h6
  obtain ⟨x,h7⟩:=key i (by omega)
  simp [f,h7]
 have hn:n=(vs.map f).length:=by simp;omega
 refine ⟨A,c,vs.map f,by rw [← hn],by rw [← hn];exact h1,by rw [← hn];exact h2,?_⟩
 unfold RdB
 rw [← e1,← hn];exact h3
def z7h (P:Program)(cs:List Value):List Field→List Value
 | []=>[]
 | f :: r=>(cs.drop f.offset).take (P.cellsOf f.type) ++ z7h P cs r
theorem zhi {g:TypeId→Bool} : ∀ {fs:List Field} {off n:Nat},z2h P g fs off n=true→cs.length=n→cs.drop off=z7h P cs fs
 | [],off,n,h,hl=>by
  have:=Nat.eq_of_beq_eq_true h
  simp [z7h];omega
 | f :: r,off,n,h,hl=>by
  unfold z2h at h
  split at h
  ·rename_i h1 h2
   have h1:=Nat.eq_of_beq_eq_true h1
   have:=zhi h hl
   unfold z7h
   rw [← this,h1,← List.drop_drop,List.take_append_drop]
  ·cases h
theorem z0l {g:TypeId→Bool}{fs:Array Field}(hu:P.underlying t=some (.struct fs))(hok:z2h P g fs.toList 0 (P.cellsOf t)=true)(h:yy P M (d+1) t cs) :
  cs=z7h P cs fs.toList∧∀ f ∈ fs.toList,yy P M d f.type ((cs.drop f.offset).take (P.cellsOf f.type)):=by
 obtain ⟨h1,h2⟩:=zip hu h
 exact ⟨by have:=zhi hok h1;rwa [List.drop_zero] at this,h2⟩
def z7i (z:Nat)(cs:List Value):Nat→Nat→List Value
 | _,0=>[]
 | i,n+1=>(cs.drop (i*z)).take z ++ z7i z cs (i+1) n
theorem zf0 {z:Nat} : ∀ {n i:Nat},cs.length=(i+n)*z→cs.drop (i*z)=z7i z cs i n
 | 0,i,h=>by simp [z7i];rw [h];simp
 | n+1,i,h=>by
  have:=zf0 (z:=z) (n:=n) (i:=i+1) (by rw [h];congr 1;omega)
  unfold z7i
  rw [← this,Nat.add_mul,Nat.one_mul,← List.drop_drop,List.take_append_drop]
theorem z0e {n z:Nat}{e:TypeId}(hu:P.underlying t=some (.array n e))(hz:P.cellsOf e=z)(hs:P.cellsOf t=n*z)(h:yy P M (d+1) t cs) :
  cs=z7i z cs 0 n∧∀ i,i < n→yy P M d e ((cs.drop (i*z)).take z):=by
 obtain ⟨h1,h2⟩:=zlc hu h
 subst hz
 refine ⟨?_,h2⟩
 have:=zf0 (cs:=cs) (z:=P.cellsOf e) (n:=n) (i:=0) (by rw [h1,hs];simp)
 simpa using this
theorem zdr (ha:ki P t=true){v:Value}(h:z3s P M t v):∃ acs,v=.agg ⟨acs⟩∧yy P M 8 t acs:=h.1 ha
theorem z9w {ts:List TypeId}{vs:List Value}(h:z1q P M (t :: ts) vs):∃ v r,vs=v :: r∧z3s P M t v∧z1q P M ts r:=by
 cases vs with
 | nil=>cases h
 | cons v r=>exact ⟨v,r,rfl,h.1,h.2⟩
theorem zpk {vs:List Value}(h:z1q P M [] vs):vs=[]:=by
 cases vs with
 | nil=>rfl
 | cons v r=>cases h
end
end Go.Zt

