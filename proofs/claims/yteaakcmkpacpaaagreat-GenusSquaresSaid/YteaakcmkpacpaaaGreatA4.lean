import Derived.Test.YteaakcmkpacpaaaGreatA3
set_option linter.unusedVariables false
set_option linter.unusedSimpArgs false
namespace Go.Proofs.YteaakcmkpacpaaaGreat
open Go Go.Proofs.YteaakcmkpacpaaaGreat.Ev
set_option maxRecDepth 100000
noncomputable def Q84.f (N:Nat)(b a:Int):Option (Int):=
 bif !(a==0)then
  bif decide ((Int.tmod b a)<0)then
   some (aA ((Int.tmod b a)+a))
  else
  some (Int.tmod b a)
 else none
noncomputable def Q85.f (N:Nat)(a:Int):Option (Bool):=
 bif decide (a≥(-1073741824))then
  some (decide (a≤1073741824))
 else
 some false
noncomputable def Q86.f (N:Nat)(a b c:Int):Option (Bool):=
 (Q85.f N a).bind fun d=>
 bif d then
  (Q85.f N b).bind fun e=>
  bif e then
   (Q85.f N c).bind fun f=>
   some f
  else
  some false
 else
 some false
noncomputable def Q87.f (N:Nat)(b a c:Int):Option (Int):=
 (Q86.f N b a c).bind fun d=>
 bif !d then
  some 0
 else
 some (aA ((aA (a*a))- (aA ((aA (4*b))*c))))
noncomputable def Q88.f (N:Nat)(a b c:Int):Option (Int):=
 (Q86.f N a b c).bind fun d=>
 bif !d then
  some 3
 else
 bif decide (a≤0)then
  some 81
 else
 (Q87.f N a b c).bind fun e=>
 bif decide (e≥0)then
  some 81
 else
 (Q87.f N a b c).bind fun f=>
 bif decide (f<(-4294967296))then
  some 80
 else
 some 0
noncomputable def Q89.f (N:Nat)(a b c:Int):Option (Bool):=
 bif decide ((aA (0-a))<b)then
  bif decide (b≤a)then
   bif decide (a≤c)then
    bif decide (b≥0)then
     some true
    else
    some (a != c)
   else
   some false
  else
  some false
 else
 some false
noncomputable def Q90.f (N:Nat)(b a:Int):Option (Int):=
 (Q84.f N b a).bind fun c=>
 bif !(a==0)then
  some (aA (Int.tdiv (aA (b-c)) a))
 else none
noncomputable def Q91.l5 {R:Type}(N:Nat):Nat→Int→Int→Int→Int→Int→Int→Int→Int→Int→Int→Int→Int→Int→Int→(Int→Int→Int→Int→Int→Int→Int→Int→Int→Int→Int→Int→Int→Int→Option R)→Option R
 |0,_,_,_,_,_,_,_,_,_,_,_,_,_,_,_=>none
 |n+1,a,f,o,q,r,g,h,i,j,k,b,l,c,m,p=>
  (Q89.f N a f o).bind fun s=>
  bif !s then
   bif decide ((aA (0-a))≥f)then
    (Q90.f N (aA (a-f)) (aA (2*a))).bind fun d=>
    Q91.l5 N n a (aA (f+(aA ((aA (2*d))*a)))) (aA ((aA ((aA ((aA (a*d))+f))*d))+o)) q r g h i j k b (aA ((aA (d*b))+l)) c (aA ((aA (d*c))+m)) p
   else
   bif decide (f>a)then
    (Q90.f N (aA (a-f)) (aA (2*a))).bind fun e=>
    Q91.l5 N n a (aA (f+(aA ((aA (2*e))*a)))) (aA ((aA ((aA ((aA (a*e))+f))*e))+o)) q r g h i j k b (aA ((aA (e*b))+l)) c (aA ((aA (e*c))+m)) p
   else
   Q91.l5 N n o (aA (0-f)) a q r g h i j k l (aA (0-b)) m (aA (0-c)) p
  else
  p a f o q r g h i j k b l c m
noncomputable def Q91.f (N:Nat)(h i j:Int):Option (Int×Int×Int×Int×Int×Int×Int×Int):=
 (Q88.f N h i j).bind fun k=>
 bif k != 0 then
  some (0,0,0,0,0,0,0,k)
 else
 Q91.l5 N N h i j 0 0 0 0 0 0 0 1 0 0 1
  (fun a b c l m o p q r s d e f g=>
   some (a,b,c,d,e,f,g,0))
noncomputable def Q92.f (N:Nat)(e f g h i j:Int):Option (Int×Int×Int×Int):=
 (Q38.f N e f g).bind fun l=>
 bif l != 0 then
  some (0,0,0,l)
 else
 (Q38.f N h i j).bind fun m=>
 bif m != 0 then
  some (0,0,0,m)
 else
 (Q51.f N e f g).bind fun d=>
 bif d.2.2.2 != 0 then
  some (0,0,0,d.2.2.2)
 else
 (Q51.f N h i j).bind fun a=>
 bif a.2.2.2 != 0 then
  some (0,0,0,a.2.2.2)
 else
 (Q37.f N e f g).bind fun c=>
 (Q37.f N h i j).bind fun k=>
 bif c != k then
  some (0,0,0,100)
 else
 (Q52.f N d.1 d.2.1 d.2.2.1 a.1 a.2.1 a.2.2.1 c).bind fun b=>
 some (b.1,b.2.1,b.2.2,0)
noncomputable def Q93.f (N:Nat)(a:Int):Option (Int):=
 bif decide (a>(-3))then
  some 80
 else
 bif decide (a<(-65536))then
  some 80
 else
 bif (Int.tmod (aA (0-a)) 4) != 0 then
  bif (Int.tmod (aA (0-a)) 4) != 3 then
   some 80
  else
  some 0
 else
 some 0
noncomputable def Q94.l1 {R:Type}(N:Nat):Nat→Int→Int→(Int→Option R)→Option R
 |0,_,_,_=>none
 |n+1,c,a,b=>
  bif decide (a>0)then
   bif !(a==0)then
    Q94.l1 N n a (Int.tmod c a) b
   else none
  else
  b c
noncomputable def Q94.f (N:Nat)(a b:Int):Option (Int):=
 Q94.l1 N N a b
  (fun c=>
   some c)
noncomputable def Q95.f (N:Nat)(b a c:Int):Option (Int):=
 bif decide (a<0)then
  (Q94.f N b (aA (0-a))).bind fun d=>
  (Q94.f N d c).bind fun e=>
  some e
 else
 (Q94.f N b a).bind fun f=>
 (Q94.f N f c).bind fun g=>
 some g
noncomputable def Q96.l6 {R:Type}(N:Nat):Nat→Int→Int→Int→List Int→(Int→Int→List Int→Option R)→Option R
 |0,_,_,_,_,_=>none
 |n+1,c,b,a,d,e=>
  bif decide (a≤b)then
   bif !((aA (4*b))==0)then
    bif (Int.tmod (aA ((aA (a*a))-c)) (aA (4*b))) != 0 then
     Q96.l6 N n c b (aA (a+1)) d e
    else
    bif !((aA (4*b))==0)then
     bif decide ((aA (Int.tdiv (aA ((aA (a*a))-c)) (aA (4*b))))>b)then
      bif cB ((d.length+3)/3) 24 then
       Q96.l6 N n c b (aA (a+1)) (d++[b,a,aA (Int.tdiv (aA ((aA (a*a))-c)) (aA (4*b)))]) e
      else none
     else
     bif (aA (Int.tdiv (aA ((aA (a*a))-c)) (aA (4*b))))==b then
      bif decide (a≥0)then
       bif cB ((d.length+3)/3) 24 then
        Q96.l6 N n c b (aA (a+1)) (d++[b,a,aA (Int.tdiv (aA ((aA (a*a))-c)) (aA (4*b)))]) e
       else none
      else
      Q96.l6 N n c b (aA (a+1)) d e
     else
     Q96.l6 N n c b (aA (a+1)) d e
    else none
   else none
  else
  e c b d
noncomputable def Q96.l3 {R:Type}(N:Nat):Nat→Int→Int→List Int→(List Int→Option R)→Option R
 |0,_,_,_,_=>none
 |n+1,f,a,g,e=>
  bif decide ((aA ((aA (3*a))*a))≤(aA (0-f)))then
   Q96.l6 N N f a (aA (1-a)) g
    (fun b c d=>
     Q96.l3 N n b (aA (c+1)) d e)
  else
  e g
noncomputable def Q96.f (N:Nat)(b:Int):Option (List Int):=
 Q96.l3 N N b 1 []
  (fun a=>
   some a)
noncomputable def Q97.l4 {R:Type}(N:Nat):Nat→List Int→Int→List Int→(List Int→Option R)→Option R
 |0,_,_,_,_=>none
 |n+1,b,a,c,d=>
  bif decide (a<(b.length/3:Int))then
   bif (decide (0≤a))&&(decide (a<(b.length/3:Int)))then
    (Q95.f N (b.getD (a.toNat*3) 0) (b.getD ((a.toNat*3)+1) 0) (b.getD ((a.toNat*3)+2) 0)).bind fun e=>
    bif e==1 then
     bif (decide (0≤a))&&(decide (a<(b.length/3:Int)))then
      bif cB ((c.length+3)/3) 24 then
       Q97.l4 N n b (aA (a+1)) (c++[b.getD (a.toNat*3) 0,b.getD ((a.toNat*3)+1) 0,b.getD ((a.toNat*3)+2) 0]) d
      else none
     else none
    else
    Q97.l4 N n b (aA (a+1)) c d
   else none
  else
  d c
noncomputable def Q97.f (N:Nat)(a:Int):Option (List Int):=
 (Q96.f N a).bind fun b=>
 Q97.l4 N N b 0 []
  (fun c=>
   some c)
noncomputable def Q98.l8 {R:Type}(N:Nat):Nat→Int→Int→Int→List Int→(Int→Int→Int→List Int→Option R)→Option R
 |0,_,_,_,_,_=>none
 |n+1,d,b,a,e,c=>
  bif !(a==0)then
   bif (Int.tmod b a)==0 then
    bif !(a==0)then
     Q98.l8 N n d (aA (Int.tdiv b a)) a e c
    else none
   else
   c d b a e
  else none
noncomputable def Q98.l4 {R:Type}(N:Nat):Nat→Int→Int→Int→List Int→(Int→List Int→Option R)→Option R
 |0,_,_,_,_,_=>none
 |n+1,e,b,a,c,d=>
  bif decide (a≤b)then
   bif !(a==0)then
    bif (Int.tmod b a) != 0 then
     Q98.l4 N n e b (aA (a+2)) c d
    else
    bif cB (c.length+1) 8 then
     Q98.l8 N N e b a (c++[a])
      (fun f g h i=>
       Q98.l4 N n f g (aA (h+2)) i d)
    else none
   else none
  else
  d e c
noncomputable def Q98.f (N:Nat)(c:Int):Option (List Int):=
 Q98.l4 N N c (aA (0-c)) 3 []
  (fun b a=>
   bif (Int.tmod b 2) != 0 then
    some a
   else
   bif (Int.tmod (aA (Int.tdiv (aA (0-b)) 4)) 4)==3 then
    some a
   else
   bif (Int.tmod (aA (Int.tdiv (aA (0-b)) 4)) 4)==1 then
    bif cB (a.length+1) 8 then
     some (a++[(-4)])
    else none
   else
   bif (Int.tmod (aA (Int.tdiv (aA (0-b)) 4)) 8)==4 then
    bif cB (a.length+1) 8 then
     some (a++[(-4)])
    else none
   else
   bif (Int.tmod (aA (Int.tdiv (aA (0-b)) 4)) 8)==2 then
    bif cB (a.length+1) 8 then
     some (a++[(-8)])
    else none
   else
   bif (Int.tmod (aA (Int.tdiv (aA (0-b)) 4)) 8)==6 then
    bif cB (a.length+1) 8 then
     some (a++[8])
    else none
   else
   bif cB (a.length+2) 8 then
    some (a++[(-4),8])
   else none)
noncomputable def Q99.l15 {R:Type}(N:Nat):Nat→Int→Int→Int→(Unit→Option R)→(Int→Option R)→Option R
 |0,_,_,_,_,_=>none
 |n+1,d,a,b,c,kr=>
  bif decide (b<a)then
   bif !(a==0)then
    bif (Int.tmod (aA ((aA (b*b))-d)) a)==0 then
     kr 1
    else
    Q99.l15 N n d a (aA (b+1)) c kr
   else none
  else
  c ()
noncomputable def Q99.f (N:Nat)(a b:Int):Option (Int):=
 bif b==(-4)then
  bif (Int.tmod a 4)==1 then
   some 1
  else
  some (-1)
 else
 bif b==8 then
  bif (Int.tmod a 8)==1 then
   some 1
  else
  bif (Int.tmod a 8)==7 then
   some 1
  else
  some (-1)
 else
 bif b==(-8)then
  bif (Int.tmod a 8)==1 then
   some 1
  else
  bif (Int.tmod a 8)==3 then
   some 1
  else
  some (-1)
 else
 Q99.l15 N N a b 1
  (fun(_:Unit)=>
   some (-1))
  (fun c=>
   some c)
noncomputable def Q100.f (N:Nat)(b a:Int):Option (Bool):=
 bif decide (a<0)then
  (Q94.f N b (aA (0-a))).bind fun c=>
  some (c==1)
 else
 (Q94.f N b a).bind fun d=>
 some (d==1)
noncomputable def Q101.l4 {R:Type}(N:Nat):Nat→List Int→Int→Int→Int→Int→List Int→(List Int→Option R)→Option R
 |0,_,_,_,_,_,_,_=>none
 |n+1,c,a,d,g,e,b,f=>
  bif decide (a<(c.length:Int))then
   bif (decide (0≤a))&&(decide (a<(c.length:Int)))then
    (Q100.f N d (c.getD a.toNat 0)).bind fun h=>
    bif (decide (0≤a))&&(decide (a<(c.length:Int)))then
     (Q100.f N e (c.getD a.toNat 0)).bind fun i=>
     bif !h then
      bif !i then
       bif (decide (0≤a))&&(decide (a<(c.length:Int)))then
        (Q99.f N (aA ((aA (d+g))+e)) (c.getD a.toNat 0)).bind fun j=>
        bif cB (b.length+1) 8 then
         Q101.l4 N n c (aA (a+1)) d g e (b++[j]) f
        else none
       else none
      else
      bif (decide (0≤a))&&(decide (a<(c.length:Int)))then
       (Q99.f N e (c.getD a.toNat 0)).bind fun k=>
       bif cB (b.length+1) 8 then
        Q101.l4 N n c (aA (a+1)) d g e (b++[k]) f
       else none
      else none
     else
     bif (decide (0≤a))&&(decide (a<(c.length:Int)))then
      (Q99.f N d (c.getD a.toNat 0)).bind fun l=>
      bif cB (b.length+1) 8 then
       Q101.l4 N n c (aA (a+1)) d g e (b++[l]) f
      else none
     else none
    else none
   else none
  else
  f b
noncomputable def Q101.f (N:Nat)(c a d:Int):Option (List Int):=
 (Q98.f N (aA ((aA (a*a))- (aA ((aA (4*c))*d))))).bind fun e=>
 Q101.l4 N N e 0 c a d []
  (fun b=>
   some b)
noncomputable def Q102.l2 {R:Type}(N:Nat):Nat→List Int→List Int→Int→(List Int→List Int→Option R)→(Bool→Option R)→Option R
 |0,_,_,_,_,_=>none
 |n+1,b,c,a,d,kr=>
  bif decide (a<(b.length:Int))then
   bif (decide (0≤a))&&(decide (a<(b.length:Int)))then
    bif (decide (0≤a))&&(decide (a<(c.length:Int)))then
     bif (b.getD a.toNat 0) != (c.getD a.toNat 0)then
      kr false
     else
     Q102.l2 N n b c (aA (a+1)) d kr
    else none
   else none
  else
  d b c
noncomputable def Q102.f (N:Nat)(c d:List Int):Option (Bool):=
 Q102.l2 N N c d 0
  (fun e a=>
   some ((e.length:Int)==(a.length:Int)))
  (fun b=>
   some b)
noncomputable def Q103.l11 {R:Type}(N:Nat):Nat→List Int→Int→List Int→Int→List (List Int)→List Bool→List Int→(List Int→Int→List (List Int)→List Bool→List Int→Option R)→Option R
 |0,_,_,_,_,_,_,_,_=>none
 |n+1,b,j,e,a,f,c,d,g=>
  bif decide (a<(b.length/3:Int))then
   bif (decide (0≤a))&&(decide (a<(b.length/3:Int)))then
    (Q101.f N (b.getD (a.toNat*3) 0) (b.getD ((a.toNat*3)+1) 0) (b.getD ((a.toNat*3)+2) 0)).bind fun h=>
    (Q102.f N h e).bind fun i=>
    bif i then
     bif (decide (0≤a))&&(decide (a<(b.length/3:Int)))then
      bif cB ((d.length+3)/3) 24 then
       bif (decide (0≤a))&&(decide (a<(c.length:Int)))then
        Q103.l11 N n b j e (aA (a+1)) f (c.set a.toNat true) (d++[b.getD (a.toNat*3) 0,b.getD ((a.toNat*3)+1) 0,b.getD ((a.toNat*3)+2) 0]) g
       else none
      else none
     else none
    else
    Q103.l11 N n b j e (aA (a+1)) f c d g
   else none
  else
  g b j f c d
noncomputable def Q103.l5 {R:Type}(N:Nat):Nat→List Int→Int→List (List Int)→List Bool→(List (List Int)→Option R)→Option R
 |0,_,_,_,_,_=>none
 |n+1,b,a,f,d,e=>
  bif decide (a<(b.length/3:Int))then
   bif (decide (0≤a))&&(decide (a<(d.length:Int)))then
    bif d.getD a.toNat false then
     Q103.l5 N n b (aA (a+1)) f d e
    else
    bif (decide (0≤a))&&(decide (a<(b.length/3:Int)))then
     (Q101.f N (b.getD (a.toNat*3) 0) (b.getD ((a.toNat*3)+1) 0) (b.getD ((a.toNat*3)+2) 0)).bind fun k=>
     Q103.l11 N N b a k a f d []
      (fun g h c i j=>
       bif cB (c.length+1) 24 then
        Q103.l5 N n g (aA (h+1)) (c++[j]) i e
       else none)
    else none
   else none
  else
  e f
noncomputable def Q103.f (N:Nat)(c:Int):Option (List (List Int)):=
 (Q97.f N c).bind fun a=>
 bif decide ((a.length/3:Int)=(a.length/3:Int))&&decide (0≤(a.length/3:Int))&&decide ((a.length/3:Int)≤9223372036854775807)&&cB ((a.length/3:Int).toNat) 1 then
  Q103.l5 N N a 0 [] (List.replicate ((a.length/3:Int).toNat) false)
   (fun b=>
    some b)
 else none
noncomputable def Q104.f (N:Nat)(c d e:Int):Option (Nat×Nat×List Int×Int):=
 (Q38.f N c d e).bind fun f=>
 bif f != 0 then
  some (0,0,[],f)
 else
 (Q37.f N c d e).bind fun g=>
 bif decide (g<(-65536))then
  some (0,0,[],80)
 else
 (Q41.f N c d e).bind fun h=>
 bif h != 1 then
  some (0,0,[],81)
 else
 (Q37.f N c d e).bind fun i=>
 (Q71.f N i).bind fun b=>
 (Q73.f N c d e b).bind fun a=>
 bif ((decide (0≤(b.length:Int)))&&(decide ((b.length:Int)≤(b.length:Int))))&&(decide ((b.length:Int)≤8))then
  some (0,(b.length:Int).toNat,[a.1,a.2.1,a.2.2.1,a.2.2.2.1,a.2.2.2.2.1,a.2.2.2.2.2.1,a.2.2.2.2.2.2.1,a.2.2.2.2.2.2.2],0)
 else none
noncomputable def Q105.l8 {R:Type}(N:Nat):Nat→List Int→Int→Int→List (List Int)→List Int→List (List Int)→List Int→(List (List Int)→Option R)→Option R
 |0,_,_,_,_,_,_,_,_=>none
 |n+1,h,i,d,e,f,c,b,g=>
  bif decide (d<i)then
   bif (decide (0≤d))&&(decide (d<(b.length/3:Int)))then
    (Q73.f N (b.getD (d.toNat*3) 0) (b.getD ((d.toNat*3)+1) 0) (b.getD ((d.toNat*3)+2) 0) h).bind fun a=>
    bif !(hJ [a.1,a.2.1,a.2.2.1,a.2.2.2.1,a.2.2.2.2.1,a.2.2.2.2.2.1,a.2.2.2.2.2.2.1,a.2.2.2.2.2.2.2] e)then
     bif cB (c.length+1) 24 then
      bif (decide (0≤(c.length:Int)))&&(decide ((c.length:Int)<((c++[[]]).length:Int)))then
       bif cB (((((c++[[]]).getD ((c.length:Int).toNat) []).length)+3)/3) 24 then
        bif (decide (0≤(c.length:Int)))&&(decide ((c.length:Int)<((c++[[]]).length:Int)))then
         bif Nat.beq ((c.length:Int).toNat) ((c.length:Int).toNat)then
          Q105.l8 N n h i (aA (d+1)) (oB [a.1,a.2.1,a.2.2.1,a.2.2.2.1,a.2.2.2.2.1,a.2.2.2.2.2.1,a.2.2.2.2.2.2.1,a.2.2.2.2.2.2.2] e) (iH [a.1,a.2.1,a.2.2.1,a.2.2.2.1,a.2.2.2.2.1,a.2.2.2.2.2.1,a.2.2.2.2.2.2.1,a.2.2.2.2.2.2.2] (c.length:Int) e f) ((c++[[]]).set ((c.length:Int).toNat) (((c++[[]]).getD ((c.length:Int).toNat) [])++[b.getD (d.toNat*3) 0,b.getD ((d.toNat*3)+1) 0,b.getD ((d.toNat*3)+2) 0])) b g
         else none
        else none
       else none
      else none
     else none
    else
    bif (decide (0≤(mD [a.1,a.2.1,a.2.2.1,a.2.2.2.1,a.2.2.2.2.1,a.2.2.2.2.2.1,a.2.2.2.2.2.2.1,a.2.2.2.2.2.2.2] e f)))&&(decide ((mD [a.1,a.2.1,a.2.2.1,a.2.2.2.1,a.2.2.2.2.1,a.2.2.2.2.2.1,a.2.2.2.2.2.2.1,a.2.2.2.2.2.2.2] e f)<(c.length:Int)))then
     bif cB ((((c.getD ((mD [a.1,a.2.1,a.2.2.1,a.2.2.2.1,a.2.2.2.2.1,a.2.2.2.2.2.1,a.2.2.2.2.2.2.1,a.2.2.2.2.2.2.2] e f).toNat) []).length)+3)/3) 24 then
      bif (decide (0≤(mD [a.1,a.2.1,a.2.2.1,a.2.2.2.1,a.2.2.2.2.1,a.2.2.2.2.2.1,a.2.2.2.2.2.2.1,a.2.2.2.2.2.2.2] e f)))&&(decide ((mD [a.1,a.2.1,a.2.2.1,a.2.2.2.1,a.2.2.2.2.1,a.2.2.2.2.2.1,a.2.2.2.2.2.2.1,a.2.2.2.2.2.2.2] e f)<(c.length:Int)))then
       bif Nat.beq ((mD [a.1,a.2.1,a.2.2.1,a.2.2.2.1,a.2.2.2.2.1,a.2.2.2.2.2.1,a.2.2.2.2.2.2.1,a.2.2.2.2.2.2.2] e f).toNat) ((mD [a.1,a.2.1,a.2.2.1,a.2.2.2.1,a.2.2.2.2.1,a.2.2.2.2.2.1,a.2.2.2.2.2.2.1,a.2.2.2.2.2.2.2] e f).toNat)then
        Q105.l8 N n h i (aA (d+1)) e f (c.set ((mD [a.1,a.2.1,a.2.2.1,a.2.2.2.1,a.2.2.2.2.1,a.2.2.2.2.2.1,a.2.2.2.2.2.2.1,a.2.2.2.2.2.2.2] e f).toNat) ((c.getD ((mD [a.1,a.2.1,a.2.2.1,a.2.2.2.1,a.2.2.2.2.1,a.2.2.2.2.2.1,a.2.2.2.2.2.2.1,a.2.2.2.2.2.2.2] e f).toNat) [])++[b.getD (d.toNat*3) 0,b.getD ((d.toNat*3)+1) 0,b.getD ((d.toNat*3)+2) 0])) b g
       else none
      else none
     else none
    else none
   else none
  else
  g c
noncomputable def Q105.f (N:Nat)(c:Int):Option (List (List Int)×Int):=
 (Q63.f N c).bind fun a=>
 bif a.2 != 0 then
  some ([],a.2)
 else
 (Q71.f N c).bind fun d=>
 Q105.l8 N N d (a.1.length/3:Int) 0 [] [] [] a.1
  (fun b=>
   some (b,0))
end Go.Proofs.YteaakcmkpacpaaaGreat
